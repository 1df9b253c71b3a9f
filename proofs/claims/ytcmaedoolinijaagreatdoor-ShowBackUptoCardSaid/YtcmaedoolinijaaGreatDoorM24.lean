/-
  Texts merged by a program of this claim's: CkB.
-/
import Derived.Test.YtcmaedoolinijaaGreatDoorM2
import Derived.Test.YtcmaedoolinijaaGreatDoorM23
namespace Go.Proofs.YtcmaedoolinijaaGreatDoor
open Go Go.RowKit Go.Sort
set_option maxRecDepth 100000
set_option maxHeartbeats 1600000 in
theorem rgt15 {w5 : World} {g eb nl c3 : Nat} {a3 : Option Addr} {nv left : Int} {s : List UInt8} {y : Bool}
    (PG : Hid (w5.heap[g]? = some (.cells #[.int .i64 left, .int .i64 (nl : Int)] 201 (0, 0))))
    (PE : Hid (w5.heap[eb]? = some (.cells (exA 2 s nv a3 0 c3) 132 (0, 0))))
    (X0 : Hid (decide ((0 : Int) ≤ nv) = true)) (X1 : Hid (decide (nv < (nl : Int)) = true))
    (HR : Hid (∀ W, Nw w5 W → ∀ g, W.heap[g]? = some (.cells #[.string ⟨s.toArray⟩, .slice none 0 0, .int .i64 0] 93 (0, 0)) → Calls Tryz.prog 72 #[.agg #[.slice none 0 0, .slice (some ⟨g, 0, none⟩) 1 1]] W fun z w' => z = .returned (.bool y) ∧ Nw W w'))
    {u1 u2 u3 u5 u6 u7 u8 u10 u11 u12 u13 u14 u15 u16 u17 u18 u19 u20 u21 u22 u23 u24 u25 u26 u27 u28 u29 u30 u31 u32 u33 u34 u35 u36 u37 u38 u39 u40 u41 u42 u43 u44 u45 u46 u47 u48 u49 u50 u51 u52 u53 u54 u55 u56 u57 u58 u59 u60 u61 u62 u63 u64 u65 u66 u67 u68 u69 u70 u71 u72 u73 u74 u75 u76 u77 u78 u79 u80 u81 u82 u83 u84 u85 u86 u87 u88 u89 u90 u91 u92 u93 u94 u95 u96 u97 u98 u99 u100 u101 u102 u103 u104 u105 u106 u107 u108 : Value} {Q : Exit → Act → World → Prop}
    (hQ : ∀ (s6 s61 s62 s63 s64 s65 s66 s67 s68 s69 s70 s71 s72 s73 s74 s75 s76 s77 s78 s79 s80 s81 s82 s83 s84 : Value) (wx : World), Nw w5 wx → s6 = .bool y → Q .normal ⟨#[.pointer (some ⟨g, 0, none⟩), u1, u2, u3, .pointer (some ⟨eb, 0, none⟩), u5, s6, u7, u8, .int .i64 0, u10, u11, u12, u13, u14, u15, u16, u17, u18, u19, u20, u21, u22, u23, u24, u25, u26, u27, u28, u29, u30, u31, u32, u33, u34, u35, u36, u37, u38, u39, u40, u41, u42, u43, u44, u45, u46, u47, u48, u49, u50, u51, u52, u53, u54, u55, u56, u57, u58, u59, u60, s61, s62, s63, s64, s65, s66, s67, s68, s69, s70, s71, s72, s73, s74, s75, s76, s77, s78, s79, s80, s81, s82, s83, s84, u85, u86, u87, u88, u89, u90, u91, u92, u93, u94, u95, u96, u97, u98, u99, u100, u101, u102, u103, u104, u105, u106, u107, u108], []⟩ wx) :
    Code.wp Tryz.prog ((Tryz.f120.body.bind (regionOf 15)).getD .skip) Q ⟨#[.pointer (some ⟨g, 0, none⟩), u1, u2, u3, .pointer (some ⟨eb, 0, none⟩), u5, u6, u7, u8, .int .i64 0, u10, u11, u12, u13, u14, u15, u16, u17, u18, u19, u20, u21, u22, u23, u24, u25, u26, u27, u28, u29, u30, u31, u32, u33, u34, u35, u36, u37, u38, u39, u40, u41, u42, u43, u44, u45, u46, u47, u48, u49, u50, u51, u52, u53, u54, u55, u56, u57, u58, u59, u60, u61, u62, u63, u64, u65, u66, u67, u68, u69, u70, u71, u72, u73, u74, u75, u76, u77, u78, u79, u80, u81, u82, u83, u84, u85, u86, u87, u88, u89, u90, u91, u92, u93, u94, u95, u96, u97, u98, u99, u100, u101, u102, u103, u104, u105, u106, u107, u108], []⟩ w5 := by
  (try dsimp only at hQ ⊢)
  conv => arg 2; whnf
  have HQ := Lib.hid hQ
  clear hQ
  refine name_act fun A hA => ?_
  have hA0 : A.tmps[0]? = some (.pointer (some ⟨g, 0, none⟩)) := by rw [hA]; rfl
  have hA4 : A.tmps[4]? = some (.pointer (some ⟨eb, 0, none⟩)) := by rw [hA]; rfl
  have hA9 : A.tmps[9]? = some (.int .i64 0) := by rw [hA]; rfl
  have hlt0 : ∀ d ∈ ([61, 62, 63, 64, 65, 66, 67, 68, 69, 70, 71, 72, 73, 74, 75, 76, 77, 78, 79, 80, 81, 82, 83, 84, 6] : List Nat), d < 109 := by decide
  refine wp_region_tab [61, 62, 63, 64, 65, 66, 67, 68, 69, 70, 71, 72, 73, 74, 75, 76, 77, 78, 79, 80, 81, 82, 83, 84, 6] [isV (.int .i64 0), isV (.bool true), isV (.bool true), isV (.pointer (some ⟨eb, 2, none⟩)), isV (.int .i64 nv), isV (.bool true), isV (.bool true), isV (.bool true), isV (.pointer (some ⟨eb, 2, none⟩)), isV (.int .i64 nv), isV (.pointer (some ⟨g, 0, none⟩)), isV (.pointer (some ⟨g, 0, none⟩)), isV (.pointer (some ⟨g, 1, none⟩)), isV (.int .i64 (nl : Int)), isV (.bool true), isV (.bool true), isV (.bool true), isV (.pointer (some ⟨eb, 1, none⟩)), isV (.string ⟨s.toArray⟩), isV (.agg #[.string ⟨s.toArray⟩, .slice none 0 0, .int .i64 0]), (⟨fun x w => ∃ g, x = .slice (some ⟨g, 0, none⟩) 1 1 ∧ w.heap[g]? = some (.cells #[.string ⟨s.toArray⟩, .slice none 0 0, .int .i64 0] 93 (0, 0)), fun x w w' ⟨g, h1, h2⟩ n => ⟨g, h1, n.at_ h2⟩⟩), (⟨fun x w => ∃ g, x = .agg #[.slice none 0 0, .slice (some ⟨g, 0, none⟩) 1 1] ∧ w.heap[g]? = some (.cells #[.string ⟨s.toArray⟩, .slice none 0 0, .int .i64 0] 93 (0, 0)), fun x w w' ⟨g, h1, h2⟩ n => ⟨g, h1, n.at_ h2⟩⟩), isV (.bool y), isV (.bool y), isV (.bool y)] (by kernel_rfl) (by kernel_rfl) (by kernel_rfl) (of_decide_eq_true (by kernel_rfl)) (fun d hd => by rw [hA]; exact hlt0 d hd) (fun L hL => ⟨?a0, ?a1, ?a2, ?a3, ?a4, ?a5, ?a6, ?a7, ?a8, ?a9, ?a10, ?a11, ?a12, ?a13, ?a14, ?a15, ?a16, ?a17, ?a18, ?a19, ?a20, ?a21, ?a22, ?a23, ?a24, trivial⟩) ?he
  · intro a w hN old new
    have e9 := old 9 (.int .i64 0) rfl hA9
    exact OpOk.val (.int .i64 0) (w_none rfl) [(9, _)] (forall_cons e9 <| forall_nil) (fun ρ e ⟨c1, c2⟩ => by (try simp only [List.forall_mem_cons] at e); go_simp) ⟨Nw.refl _, rfl⟩
  · intro a w hN old new
    obtain ⟨y61, e61, g61⟩ := new 0 61 rfl rfl
    obtain rfl : y61 = .int .i64 0 := g61
    exact OpOk.val (.bool true) (w_none rfl) [(61, _)] (forall_cons e61 <| forall_nil) (fun ρ e ⟨c1, c2⟩ => by (try simp only [List.forall_mem_cons] at e); go_simp) ⟨Nw.refl _, rfl⟩
  · intro a w hN old new
    obtain ⟨y62, e62, g62⟩ := new 1 62 rfl rfl
    obtain rfl : y62 = .bool true := g62
    exact OpOk.val (.bool true) (w_none rfl) [(62, _)] (forall_cons e62 <| forall_nil) (fun ρ e ⟨c1, c2⟩ => by (try simp only [List.forall_mem_cons] at e); go_simp) ⟨Nw.refl _, rfl⟩
  · intro a w hN old new
    obtain ⟨y63, e63, g63⟩ := new 2 63 rfl rfl
    obtain rfl : y63 = .bool true := g63
    have e4 := old 4 (.pointer (some ⟨eb, 0, none⟩)) rfl hA4
    exact OpOk.val (.pointer (some ⟨eb, 2, none⟩)) (tab_yes hL rfl rfl e63) [(4, _)] (forall_cons e4 <| forall_nil) (fun ρ e ⟨c1, c2⟩ => by (try simp only [List.forall_mem_cons] at e); go_simp) ⟨Nw.refl _, rfl⟩
  · intro a w hN old new
    obtain ⟨y63, e63, g63⟩ := new 2 63 rfl rfl
    obtain rfl : y63 = .bool true := g63
    obtain ⟨y64, e64, g64⟩ := new 3 64 rfl rfl
    obtain rfl : y64 = .pointer (some ⟨eb, 2, none⟩) := g64
    have hp := hN.at_ PE.out
    obtain ⟨q0, q1, q2, q3, qf⟩ := box4 hp
    exact OpOk.val (.int .i64 nv) (tab_yes hL rfl rfl e63) [(64, _)] (forall_cons e64 <| forall_nil) (fun ρ e ⟨c1, c2⟩ => by (try simp only [List.forall_mem_cons] at e); go_simp) ⟨Nw.refl _, rfl⟩
  · intro a w hN old new
    obtain ⟨y63, e63, g63⟩ := new 2 63 rfl rfl
    obtain rfl : y63 = .bool true := g63
    obtain ⟨y65, e65, g65⟩ := new 4 65 rfl rfl
    obtain rfl : y65 = .int .i64 nv := g65
    have hx := X0.out
    exact OpOk.val (.bool true) (tab_yes hL rfl rfl e63) [(65, _)] (forall_cons e65 <| forall_nil) (fun ρ e ⟨c1, c2⟩ => by (try simp only [List.forall_mem_cons] at e); go_simp) ⟨Nw.refl _, rfl⟩
  · intro a w hN old new
    obtain ⟨y63, e63, g63⟩ := new 2 63 rfl rfl
    obtain rfl : y63 = .bool true := g63
    obtain ⟨y66, e66, g66⟩ := new 5 66 rfl rfl
    obtain rfl : y66 = .bool true := g66
    exact OpOk.val (.bool true) (w_none rfl) [(63, _), (66, _)] (forall_cons e63 <| forall_cons e66 <| forall_nil) (fun ρ e ⟨c1, c2⟩ => by (try simp only [List.forall_mem_cons] at e); go_simp) ⟨Nw.refl _, rfl⟩
  · intro a w hN old new
    obtain ⟨y67, e67, g67⟩ := new 6 67 rfl rfl
    obtain rfl : y67 = .bool true := g67
    exact OpOk.val (.bool true) (w_none rfl) [(67, _)] (forall_cons e67 <| forall_nil) (fun ρ e ⟨c1, c2⟩ => by (try simp only [List.forall_mem_cons] at e); go_simp) ⟨Nw.refl _, rfl⟩
  · intro a w hN old new
    obtain ⟨y68, e68, g68⟩ := new 7 68 rfl rfl
    obtain rfl : y68 = .bool true := g68
    have e4 := old 4 (.pointer (some ⟨eb, 0, none⟩)) rfl hA4
    exact OpOk.val (.pointer (some ⟨eb, 2, none⟩)) (tab_yes hL rfl rfl e68) [(4, _)] (forall_cons e4 <| forall_nil) (fun ρ e ⟨c1, c2⟩ => by (try simp only [List.forall_mem_cons] at e); go_simp) ⟨Nw.refl _, rfl⟩
  · intro a w hN old new
    obtain ⟨y68, e68, g68⟩ := new 7 68 rfl rfl
    obtain rfl : y68 = .bool true := g68
    obtain ⟨y69, e69, g69⟩ := new 8 69 rfl rfl
    obtain rfl : y69 = .pointer (some ⟨eb, 2, none⟩) := g69
    have hp := hN.at_ PE.out
    obtain ⟨q0, q1, q2, q3, qf⟩ := box4 hp
    exact OpOk.val (.int .i64 nv) (tab_yes hL rfl rfl e68) [(69, _)] (forall_cons e69 <| forall_nil) (fun ρ e ⟨c1, c2⟩ => by (try simp only [List.forall_mem_cons] at e); go_simp) ⟨Nw.refl _, rfl⟩
  · intro a w hN old new
    obtain ⟨y68, e68, g68⟩ := new 7 68 rfl rfl
    obtain rfl : y68 = .bool true := g68
    have e0 := old 0 (.pointer (some ⟨g, 0, none⟩)) rfl hA0
    exact OpOk.val (.pointer (some ⟨g, 0, none⟩)) (tab_yes hL rfl rfl e68) [(0, _)] (forall_cons e0 <| forall_nil) (fun ρ e ⟨c1, c2⟩ => by (try simp only [List.forall_mem_cons] at e); go_simp) ⟨Nw.refl _, rfl⟩
  · intro a w hN old new
    obtain ⟨y68, e68, g68⟩ := new 7 68 rfl rfl
    obtain rfl : y68 = .bool true := g68
    obtain ⟨y71, e71, g71⟩ := new 10 71 rfl rfl
    obtain rfl : y71 = .pointer (some ⟨g, 0, none⟩) := g71
    exact OpOk.val (.pointer (some ⟨g, 0, none⟩)) (tab_yes hL rfl rfl e68) [(71, _)] (forall_cons e71 <| forall_nil) (fun ρ e ⟨c1, c2⟩ => by (try simp only [List.forall_mem_cons] at e); go_simp) ⟨Nw.refl _, rfl⟩
  · intro a w hN old new
    obtain ⟨y68, e68, g68⟩ := new 7 68 rfl rfl
    obtain rfl : y68 = .bool true := g68
    obtain ⟨y72, e72, g72⟩ := new 11 72 rfl rfl
    obtain rfl : y72 = .pointer (some ⟨g, 0, none⟩) := g72
    exact OpOk.val (.pointer (some ⟨g, 1, none⟩)) (tab_yes hL rfl rfl e68) [(72, _)] (forall_cons e72 <| forall_nil) (fun ρ e ⟨c1, c2⟩ => by (try simp only [List.forall_mem_cons] at e); go_simp) ⟨Nw.refl _, rfl⟩
  · intro a w hN old new
    obtain ⟨y68, e68, g68⟩ := new 7 68 rfl rfl
    obtain rfl : y68 = .bool true := g68
    obtain ⟨y73, e73, g73⟩ := new 12 73 rfl rfl
    obtain rfl : y73 = .pointer (some ⟨g, 1, none⟩) := g73
    have hp := hN.at_ PG.out
    obtain ⟨q0, q1, qf⟩ := box2 hp
    exact OpOk.val (.int .i64 (nl : Int)) (tab_yes hL rfl rfl e68) [(73, _)] (forall_cons e73 <| forall_nil) (fun ρ e ⟨c1, c2⟩ => by (try simp only [List.forall_mem_cons] at e); go_simp) ⟨Nw.refl _, rfl⟩
  · intro a w hN old new
    obtain ⟨y68, e68, g68⟩ := new 7 68 rfl rfl
    obtain rfl : y68 = .bool true := g68
    obtain ⟨y70, e70, g70⟩ := new 9 70 rfl rfl
    obtain rfl : y70 = .int .i64 nv := g70
    obtain ⟨y74, e74, g74⟩ := new 13 74 rfl rfl
    obtain rfl : y74 = .int .i64 (nl : Int) := g74
    have hx := X1.out
    exact OpOk.val (.bool true) (tab_yes hL rfl rfl e68) [(70, _), (74, _)] (forall_cons e70 <| forall_cons e74 <| forall_nil) (fun ρ e ⟨c1, c2⟩ => by (try simp only [List.forall_mem_cons] at e); go_simp) ⟨Nw.refl _, rfl⟩
  · intro a w hN old new
    obtain ⟨y68, e68, g68⟩ := new 7 68 rfl rfl
    obtain rfl : y68 = .bool true := g68
    obtain ⟨y75, e75, g75⟩ := new 14 75 rfl rfl
    obtain rfl : y75 = .bool true := g75
    exact OpOk.val (.bool true) (w_none rfl) [(68, _), (75, _)] (forall_cons e68 <| forall_cons e75 <| forall_nil) (fun ρ e ⟨c1, c2⟩ => by (try simp only [List.forall_mem_cons] at e); go_simp) ⟨Nw.refl _, rfl⟩
  · intro a w hN old new
    obtain ⟨y76, e76, g76⟩ := new 15 76 rfl rfl
    obtain rfl : y76 = .bool true := g76
    exact OpOk.val (.bool true) (w_none rfl) [(76, _)] (forall_cons e76 <| forall_nil) (fun ρ e ⟨c1, c2⟩ => by (try simp only [List.forall_mem_cons] at e); go_simp) ⟨Nw.refl _, rfl⟩
  · intro a w hN old new
    obtain ⟨y77, e77, g77⟩ := new 16 77 rfl rfl
    obtain rfl : y77 = .bool true := g77
    have e4 := old 4 (.pointer (some ⟨eb, 0, none⟩)) rfl hA4
    exact OpOk.val (.pointer (some ⟨eb, 1, none⟩)) (tab_yes hL rfl rfl e77) [(4, _)] (forall_cons e4 <| forall_nil) (fun ρ e ⟨c1, c2⟩ => by (try simp only [List.forall_mem_cons] at e); go_simp) ⟨Nw.refl _, rfl⟩
  · intro a w hN old new
    obtain ⟨y77, e77, g77⟩ := new 16 77 rfl rfl
    obtain rfl : y77 = .bool true := g77
    obtain ⟨y78, e78, g78⟩ := new 17 78 rfl rfl
    obtain rfl : y78 = .pointer (some ⟨eb, 1, none⟩) := g78
    have hp := hN.at_ PE.out
    obtain ⟨q0, q1, q2, q3, qf⟩ := box4 hp
    exact OpOk.val (.string ⟨s.toArray⟩) (tab_yes hL rfl rfl e77) [(78, _)] (forall_cons e78 <| forall_nil) (fun ρ e ⟨c1, c2⟩ => by (try simp only [List.forall_mem_cons] at e); go_simp) ⟨Nw.refl _, rfl⟩
  · intro a w hN old new
    obtain ⟨y77, e77, g77⟩ := new 16 77 rfl rfl
    obtain rfl : y77 = .bool true := g77
    obtain ⟨y79, e79, g79⟩ := new 18 79 rfl rfl
    obtain rfl : y79 = .string ⟨s.toArray⟩ := g79
    exact OpOk.val (.agg #[.string ⟨s.toArray⟩, .slice none 0 0, .int .i64 0]) (tab_yes hL rfl rfl e77) [(79, _)] (forall_cons e79 <| forall_nil) (fun ρ e ⟨c1, c2⟩ => by (try simp only [List.forall_mem_cons] at e); go_simp) ⟨Nw.refl _, rfl⟩
  · intro a w hN old new
    obtain ⟨y77, e77, g77⟩ := new 16 77 rfl rfl
    obtain rfl : y77 = .bool true := g77
    obtain ⟨y80, e80, g80⟩ := new 19 80 rfl rfl
    obtain rfl : y80 = .agg #[.string ⟨s.toArray⟩, .slice none 0 0, .int .i64 0] := g80
    exact OpOk.made (.slice (some ⟨w.heap.size, 0, none⟩) 1 1) (w.alloc (.cells #[.string ⟨s.toArray⟩, .slice none 0 0, .int .i64 0] 93 (0, 0))) (tab_yes hL rfl rfl e77) [(80, _)] (forall_cons e80 <| forall_nil) (fun ρ e ⟨c1, c2⟩ => by (try simp only [List.forall_mem_cons] at e); go_simp) ⟨(Nw.refl w).alloc _, ⟨_, rfl, heap_alloc_new w _⟩⟩
  · intro a w hN old new
    obtain ⟨y77, e77, g77⟩ := new 16 77 rfl rfl
    obtain rfl : y77 = .bool true := g77
    obtain ⟨y81, e81, g81⟩ := new 20 81 rfl rfl
    obtain ⟨z, rfl, z0⟩ := g81
    exact OpOk.val _ (tab_yes hL rfl rfl e77) [(81, _)] (forall_cons e81 <| forall_nil) (fun ρ e ⟨c1, c2⟩ => by (try simp only [List.forall_mem_cons] at e); go_simp) ⟨Nw.refl _, ⟨z, rfl, z0⟩⟩
  · intro a w hN old new
    obtain ⟨y77, e77, g77⟩ := new 16 77 rfl rfl
    obtain rfl : y77 = .bool true := g77
    obtain ⟨y82, e82, g82⟩ := new 21 82 rfl rfl
    obtain ⟨z, rfl, z0⟩ := g82
    refine OpOk.call (tab_yes hL rfl rfl e77) [(82, _)] (forall_cons e82 <| forall_nil) (fun ρ e ⟨c1, c2⟩ => by (try simp only [List.forall_mem_cons] at e); go_simp) (HR.out _ hN z z0) (fun e w1 h => ?_)
    obtain ⟨rfl, n1⟩ := h
    exact ⟨_, rfl, n1, rfl⟩
  · intro a w hN old new
    obtain ⟨y77, e77, g77⟩ := new 16 77 rfl rfl
    obtain rfl : y77 = .bool true := g77
    obtain ⟨y83, e83, g83⟩ := new 22 83 rfl rfl
    obtain rfl : y83 = .bool y := g83
    exact OpOk.val (.bool y) (w_none rfl) [(77, _), (83, _)] (forall_cons e77 <| forall_cons e83 <| forall_nil) (fun ρ e ⟨c1, c2⟩ => by (try simp only [List.forall_mem_cons] at e); go_simp) ⟨Nw.refl _, rfl⟩
  · intro a w hN old new
    obtain ⟨y84, e84, g84⟩ := new 23 84 rfl rfl
    obtain rfl : y84 = .bool y := g84
    exact OpOk.val (.bool y) (w_none rfl) [(84, _)] (forall_cons e84 <| forall_nil) (fun ρ e ⟨c1, c2⟩ => by (try simp only [List.forall_mem_cons] at e); go_simp) ⟨Nw.refl _, rfl⟩
  · intro a w hN hsz hdf old new
    obtain ⟨y6, e6, g6⟩ := new 24 6 rfl
    exact tab_frame (frame_lit (dst := [61, 62, 63, 64, 65, 66, 67, 68, 69, 70, 71, 72, 73, 74, 75, 76, 77, 78, 79, 80, 81, 82, 83, 84, 6]) (l := [.pointer (some ⟨g, 0, none⟩), u1, u2, u3, .pointer (some ⟨eb, 0, none⟩), u5, u6, u7, u8, .int .i64 0, u10, u11, u12, u13, u14, u15, u16, u17, u18, u19, u20, u21, u22, u23, u24, u25, u26, u27, u28, u29, u30, u31, u32, u33, u34, u35, u36, u37, u38, u39, u40, u41, u42, u43, u44, u45, u46, u47, u48, u49, u50, u51, u52, u53, u54, u55, u56, u57, u58, u59, u60, u61, u62, u63, u64, u65, u66, u67, u68, u69, u70, u71, u72, u73, u74, u75, u76, u77, u78, u79, u80, u81, u82, u83, u84, u85, u86, u87, u88, u89, u90, u91, u92, u93, u94, u95, u96, u97, u98, u99, u100, u101, u102, u103, u104, u105, u106, u107, u108]) hA hsz hdf old (l' := [.pointer (some ⟨g, 0, none⟩), u1, u2, u3, .pointer (some ⟨eb, 0, none⟩), u5, (a.tmps[6]?.getD undef), u7, u8, .int .i64 0, u10, u11, u12, u13, u14, u15, u16, u17, u18, u19, u20, u21, u22, u23, u24, u25, u26, u27, u28, u29, u30, u31, u32, u33, u34, u35, u36, u37, u38, u39, u40, u41, u42, u43, u44, u45, u46, u47, u48, u49, u50, u51, u52, u53, u54, u55, u56, u57, u58, u59, u60, (a.tmps[61]?.getD undef), (a.tmps[62]?.getD undef), (a.tmps[63]?.getD undef), (a.tmps[64]?.getD undef), (a.tmps[65]?.getD undef), (a.tmps[66]?.getD undef), (a.tmps[67]?.getD undef), (a.tmps[68]?.getD undef), (a.tmps[69]?.getD undef), (a.tmps[70]?.getD undef), (a.tmps[71]?.getD undef), (a.tmps[72]?.getD undef), (a.tmps[73]?.getD undef), (a.tmps[74]?.getD undef), (a.tmps[75]?.getD undef), (a.tmps[76]?.getD undef), (a.tmps[77]?.getD undef), (a.tmps[78]?.getD undef), (a.tmps[79]?.getD undef), (a.tmps[80]?.getD undef), (a.tmps[81]?.getD undef), (a.tmps[82]?.getD undef), (a.tmps[83]?.getD undef), (a.tmps[84]?.getD undef), u85, u86, u87, u88, u89, u90, u91, u92, u93, u94, u95, u96, u97, u98, u99, u100, u101, u102, u103, u104, u105, u106, u107, u108]) (by kernel_rfl)) (HQ.out _ _ _ _ _ _ _ _ _ _ _ _ _ _ _ _ _ _ _ _ _ _ _ _ _ w hN (by rw [e6]; exact g6))
set_option maxHeartbeats 1600000 in
theorem rgt15a {w5 : World} {g eb nl nk c3 : Nat} {a3 : Option Addr} {nv left : Int} {s : List UInt8}
    (PG : Hid (w5.heap[g]? = some (.cells #[.int .i64 left, .int .i64 (nl : Int)] 201 (0, 0))))
    (PE : Hid (w5.heap[eb]? = some (.cells (exA 2 s nv a3 nk c3) 132 (0, 0))))
    (X0 : Hid (((nk : Int) == 0) = false))
    {u1 u2 u3 u5 u6 u7 u8 u10 u11 u12 u13 u14 u15 u16 u17 u18 u19 u20 u21 u22 u23 u24 u25 u26 u27 u28 u29 u30 u31 u32 u33 u34 u35 u36 u37 u38 u39 u40 u41 u42 u43 u44 u45 u46 u47 u48 u49 u50 u51 u52 u53 u54 u55 u56 u57 u58 u59 u60 u61 u62 u63 u64 u65 u66 u67 u68 u69 u70 u71 u72 u73 u74 u75 u76 u77 u78 u79 u80 u81 u82 u83 u84 u85 u86 u87 u88 u89 u90 u91 u92 u93 u94 u95 u96 u97 u98 u99 u100 u101 u102 u103 u104 u105 u106 u107 u108 : Value} {Q : Exit → Act → World → Prop}
    (hQ : ∀ (s6 s61 s62 s63 s64 s65 s66 s67 s68 s69 s70 s71 s72 s73 s74 s75 s76 s77 s78 s79 s80 s81 s82 s83 s84 : Value) (wx : World), Nw w5 wx → s6 = .bool false → Q .normal ⟨#[.pointer (some ⟨g, 0, none⟩), u1, u2, u3, .pointer (some ⟨eb, 0, none⟩), u5, s6, u7, u8, .int .i64 (nk : Int), u10, u11, u12, u13, u14, u15, u16, u17, u18, u19, u20, u21, u22, u23, u24, u25, u26, u27, u28, u29, u30, u31, u32, u33, u34, u35, u36, u37, u38, u39, u40, u41, u42, u43, u44, u45, u46, u47, u48, u49, u50, u51, u52, u53, u54, u55, u56, u57, u58, u59, u60, s61, s62, s63, s64, s65, s66, s67, s68, s69, s70, s71, s72, s73, s74, s75, s76, s77, s78, s79, s80, s81, s82, s83, s84, u85, u86, u87, u88, u89, u90, u91, u92, u93, u94, u95, u96, u97, u98, u99, u100, u101, u102, u103, u104, u105, u106, u107, u108], []⟩ wx) :
    Code.wp Tryz.prog ((Tryz.f120.body.bind (regionOf 15)).getD .skip) Q ⟨#[.pointer (some ⟨g, 0, none⟩), u1, u2, u3, .pointer (some ⟨eb, 0, none⟩), u5, u6, u7, u8, .int .i64 (nk : Int), u10, u11, u12, u13, u14, u15, u16, u17, u18, u19, u20, u21, u22, u23, u24, u25, u26, u27, u28, u29, u30, u31, u32, u33, u34, u35, u36, u37, u38, u39, u40, u41, u42, u43, u44, u45, u46, u47, u48, u49, u50, u51, u52, u53, u54, u55, u56, u57, u58, u59, u60, u61, u62, u63, u64, u65, u66, u67, u68, u69, u70, u71, u72, u73, u74, u75, u76, u77, u78, u79, u80, u81, u82, u83, u84, u85, u86, u87, u88, u89, u90, u91, u92, u93, u94, u95, u96, u97, u98, u99, u100, u101, u102, u103, u104, u105, u106, u107, u108], []⟩ w5 := by
  (try dsimp only at hQ ⊢)
  conv => arg 2; whnf
  have HQ := Lib.hid hQ
  clear hQ
  refine name_act fun A hA => ?_
  have hA0 : A.tmps[0]? = some (.pointer (some ⟨g, 0, none⟩)) := by rw [hA]; rfl
  have hA4 : A.tmps[4]? = some (.pointer (some ⟨eb, 0, none⟩)) := by rw [hA]; rfl
  have hA9 : A.tmps[9]? = some (.int .i64 (nk : Int)) := by rw [hA]; rfl
  have hlt0 : ∀ d ∈ ([61, 62, 63, 64, 65, 66, 67, 68, 69, 70, 71, 72, 73, 74, 75, 76, 77, 78, 79, 80, 81, 82, 83, 84, 6] : List Nat), d < 109 := by decide
  refine wp_region_tab [61, 62, 63, 64, 65, 66, 67, 68, 69, 70, 71, 72, 73, 74, 75, 76, 77, 78, 79, 80, 81, 82, 83, 84, 6] [isV (.int .i64 (nk : Int)), isV (.bool false), isV (.bool false), isV (undef), isV (undef), isV (undef), isV (.bool false), isV (.bool false), isV (undef), isV (undef), isV (undef), isV (undef), isV (undef), isV (undef), isV (undef), isV (.bool false), isV (.bool false), isV (undef), isV (undef), isV (undef), isV (undef), isV (undef), isV (undef), isV (.bool false), isV (.bool false)] (by kernel_rfl) (by kernel_rfl) (by kernel_rfl) (of_decide_eq_true (by kernel_rfl)) (fun d hd => by rw [hA]; exact hlt0 d hd) (fun L hL => ⟨?a0, ?a1, ?a2, ?a3, ?a4, ?a5, ?a6, ?a7, ?a8, ?a9, ?a10, ?a11, ?a12, ?a13, ?a14, ?a15, ?a16, ?a17, ?a18, ?a19, ?a20, ?a21, ?a22, ?a23, ?a24, trivial⟩) ?he
  · intro a w hN old new
    have e9 := old 9 (.int .i64 (nk : Int)) rfl hA9
    exact OpOk.val (.int .i64 (nk : Int)) (w_none rfl) [(9, _)] (forall_cons e9 <| forall_nil) (fun ρ e ⟨c1, c2⟩ => by (try simp only [List.forall_mem_cons] at e); go_simp) ⟨Nw.refl _, rfl⟩
  · intro a w hN old new
    obtain ⟨y61, e61, g61⟩ := new 0 61 rfl rfl
    obtain rfl : y61 = .int .i64 (nk : Int) := g61
    have hx := X0.out
    exact OpOk.val (.bool false) (w_none rfl) [(61, _)] (forall_cons e61 <| forall_nil) (fun ρ e ⟨c1, c2⟩ => by (try simp only [List.forall_mem_cons] at e); go_simp) ⟨Nw.refl _, rfl⟩
  · intro a w hN old new
    obtain ⟨y62, e62, g62⟩ := new 1 62 rfl rfl
    obtain rfl : y62 = .bool false := g62
    exact OpOk.val (.bool false) (w_none rfl) [(62, _)] (forall_cons e62 <| forall_nil) (fun ρ e ⟨c1, c2⟩ => by (try simp only [List.forall_mem_cons] at e); go_simp) ⟨Nw.refl _, rfl⟩
  · intro a w hN old new
    obtain ⟨y63, e63, g63⟩ := new 2 63 rfl rfl
    obtain rfl : y63 = .bool false := g63
    exact OpOk.skip (tab_no hL rfl rfl e63) ⟨Nw.refl _, rfl⟩
  · intro a w hN old new
    obtain ⟨y63, e63, g63⟩ := new 2 63 rfl rfl
    obtain rfl : y63 = .bool false := g63
    exact OpOk.skip (tab_no hL rfl rfl e63) ⟨Nw.refl _, rfl⟩
  · intro a w hN old new
    obtain ⟨y63, e63, g63⟩ := new 2 63 rfl rfl
    obtain rfl : y63 = .bool false := g63
    exact OpOk.skip (tab_no hL rfl rfl e63) ⟨Nw.refl _, rfl⟩
  · intro a w hN old new
    obtain ⟨y63, e63, g63⟩ := new 2 63 rfl rfl
    obtain rfl : y63 = .bool false := g63
    obtain ⟨y66, e66, g66⟩ := new 5 66 rfl rfl
    obtain rfl : y66 = undef := g66
    exact OpOk.val (.bool false) (w_none rfl) [(63, _), (66, _)] (forall_cons e63 <| forall_cons e66 <| forall_nil) (fun ρ e ⟨c1, c2⟩ => by (try simp only [List.forall_mem_cons] at e); go_simp) ⟨Nw.refl _, rfl⟩
  · intro a w hN old new
    obtain ⟨y67, e67, g67⟩ := new 6 67 rfl rfl
    obtain rfl : y67 = .bool false := g67
    exact OpOk.val (.bool false) (w_none rfl) [(67, _)] (forall_cons e67 <| forall_nil) (fun ρ e ⟨c1, c2⟩ => by (try simp only [List.forall_mem_cons] at e); go_simp) ⟨Nw.refl _, rfl⟩
  · intro a w hN old new
    obtain ⟨y68, e68, g68⟩ := new 7 68 rfl rfl
    obtain rfl : y68 = .bool false := g68
    exact OpOk.skip (tab_no hL rfl rfl e68) ⟨Nw.refl _, rfl⟩
  · intro a w hN old new
    obtain ⟨y68, e68, g68⟩ := new 7 68 rfl rfl
    obtain rfl : y68 = .bool false := g68
    exact OpOk.skip (tab_no hL rfl rfl e68) ⟨Nw.refl _, rfl⟩
  · intro a w hN old new
    obtain ⟨y68, e68, g68⟩ := new 7 68 rfl rfl
    obtain rfl : y68 = .bool false := g68
    exact OpOk.skip (tab_no hL rfl rfl e68) ⟨Nw.refl _, rfl⟩
  · intro a w hN old new
    obtain ⟨y68, e68, g68⟩ := new 7 68 rfl rfl
    obtain rfl : y68 = .bool false := g68
    exact OpOk.skip (tab_no hL rfl rfl e68) ⟨Nw.refl _, rfl⟩
  · intro a w hN old new
    obtain ⟨y68, e68, g68⟩ := new 7 68 rfl rfl
    obtain rfl : y68 = .bool false := g68
    exact OpOk.skip (tab_no hL rfl rfl e68) ⟨Nw.refl _, rfl⟩
  · intro a w hN old new
    obtain ⟨y68, e68, g68⟩ := new 7 68 rfl rfl
    obtain rfl : y68 = .bool false := g68
    exact OpOk.skip (tab_no hL rfl rfl e68) ⟨Nw.refl _, rfl⟩
  · intro a w hN old new
    obtain ⟨y68, e68, g68⟩ := new 7 68 rfl rfl
    obtain rfl : y68 = .bool false := g68
    exact OpOk.skip (tab_no hL rfl rfl e68) ⟨Nw.refl _, rfl⟩
  · intro a w hN old new
    obtain ⟨y68, e68, g68⟩ := new 7 68 rfl rfl
    obtain rfl : y68 = .bool false := g68
    obtain ⟨y75, e75, g75⟩ := new 14 75 rfl rfl
    obtain rfl : y75 = undef := g75
    exact OpOk.val (.bool false) (w_none rfl) [(68, _), (75, _)] (forall_cons e68 <| forall_cons e75 <| forall_nil) (fun ρ e ⟨c1, c2⟩ => by (try simp only [List.forall_mem_cons] at e); go_simp) ⟨Nw.refl _, rfl⟩
  · intro a w hN old new
    obtain ⟨y76, e76, g76⟩ := new 15 76 rfl rfl
    obtain rfl : y76 = .bool false := g76
    exact OpOk.val (.bool false) (w_none rfl) [(76, _)] (forall_cons e76 <| forall_nil) (fun ρ e ⟨c1, c2⟩ => by (try simp only [List.forall_mem_cons] at e); go_simp) ⟨Nw.refl _, rfl⟩
  · intro a w hN old new
    obtain ⟨y77, e77, g77⟩ := new 16 77 rfl rfl
    obtain rfl : y77 = .bool false := g77
    exact OpOk.skip (tab_no hL rfl rfl e77) ⟨Nw.refl _, rfl⟩
  · intro a w hN old new
    obtain ⟨y77, e77, g77⟩ := new 16 77 rfl rfl
    obtain rfl : y77 = .bool false := g77
    exact OpOk.skip (tab_no hL rfl rfl e77) ⟨Nw.refl _, rfl⟩
  · intro a w hN old new
    obtain ⟨y77, e77, g77⟩ := new 16 77 rfl rfl
    obtain rfl : y77 = .bool false := g77
    exact OpOk.skip (tab_no hL rfl rfl e77) ⟨Nw.refl _, rfl⟩
  · intro a w hN old new
    obtain ⟨y77, e77, g77⟩ := new 16 77 rfl rfl
    obtain rfl : y77 = .bool false := g77
    exact OpOk.skip (tab_no hL rfl rfl e77) ⟨Nw.refl _, rfl⟩
  · intro a w hN old new
    obtain ⟨y77, e77, g77⟩ := new 16 77 rfl rfl
    obtain rfl : y77 = .bool false := g77
    exact OpOk.skip (tab_no hL rfl rfl e77) ⟨Nw.refl _, rfl⟩
  · intro a w hN old new
    obtain ⟨y77, e77, g77⟩ := new 16 77 rfl rfl
    obtain rfl : y77 = .bool false := g77
    exact OpOk.skip (tab_no hL rfl rfl e77) ⟨Nw.refl _, rfl⟩
  · intro a w hN old new
    obtain ⟨y77, e77, g77⟩ := new 16 77 rfl rfl
    obtain rfl : y77 = .bool false := g77
    obtain ⟨y83, e83, g83⟩ := new 22 83 rfl rfl
    obtain rfl : y83 = undef := g83
    exact OpOk.val (.bool false) (w_none rfl) [(77, _), (83, _)] (forall_cons e77 <| forall_cons e83 <| forall_nil) (fun ρ e ⟨c1, c2⟩ => by (try simp only [List.forall_mem_cons] at e); go_simp) ⟨Nw.refl _, rfl⟩
  · intro a w hN old new
    obtain ⟨y84, e84, g84⟩ := new 23 84 rfl rfl
    obtain rfl : y84 = .bool false := g84
    exact OpOk.val (.bool false) (w_none rfl) [(84, _)] (forall_cons e84 <| forall_nil) (fun ρ e ⟨c1, c2⟩ => by (try simp only [List.forall_mem_cons] at e); go_simp) ⟨Nw.refl _, rfl⟩
  · intro a w hN hsz hdf old new
    obtain ⟨y6, e6, g6⟩ := new 24 6 rfl
    exact tab_frame (frame_lit (dst := [61, 62, 63, 64, 65, 66, 67, 68, 69, 70, 71, 72, 73, 74, 75, 76, 77, 78, 79, 80, 81, 82, 83, 84, 6]) (l := [.pointer (some ⟨g, 0, none⟩), u1, u2, u3, .pointer (some ⟨eb, 0, none⟩), u5, u6, u7, u8, .int .i64 (nk : Int), u10, u11, u12, u13, u14, u15, u16, u17, u18, u19, u20, u21, u22, u23, u24, u25, u26, u27, u28, u29, u30, u31, u32, u33, u34, u35, u36, u37, u38, u39, u40, u41, u42, u43, u44, u45, u46, u47, u48, u49, u50, u51, u52, u53, u54, u55, u56, u57, u58, u59, u60, u61, u62, u63, u64, u65, u66, u67, u68, u69, u70, u71, u72, u73, u74, u75, u76, u77, u78, u79, u80, u81, u82, u83, u84, u85, u86, u87, u88, u89, u90, u91, u92, u93, u94, u95, u96, u97, u98, u99, u100, u101, u102, u103, u104, u105, u106, u107, u108]) hA hsz hdf old (l' := [.pointer (some ⟨g, 0, none⟩), u1, u2, u3, .pointer (some ⟨eb, 0, none⟩), u5, (a.tmps[6]?.getD undef), u7, u8, .int .i64 (nk : Int), u10, u11, u12, u13, u14, u15, u16, u17, u18, u19, u20, u21, u22, u23, u24, u25, u26, u27, u28, u29, u30, u31, u32, u33, u34, u35, u36, u37, u38, u39, u40, u41, u42, u43, u44, u45, u46, u47, u48, u49, u50, u51, u52, u53, u54, u55, u56, u57, u58, u59, u60, (a.tmps[61]?.getD undef), (a.tmps[62]?.getD undef), (a.tmps[63]?.getD undef), (a.tmps[64]?.getD undef), (a.tmps[65]?.getD undef), (a.tmps[66]?.getD undef), (a.tmps[67]?.getD undef), (a.tmps[68]?.getD undef), (a.tmps[69]?.getD undef), (a.tmps[70]?.getD undef), (a.tmps[71]?.getD undef), (a.tmps[72]?.getD undef), (a.tmps[73]?.getD undef), (a.tmps[74]?.getD undef), (a.tmps[75]?.getD undef), (a.tmps[76]?.getD undef), (a.tmps[77]?.getD undef), (a.tmps[78]?.getD undef), (a.tmps[79]?.getD undef), (a.tmps[80]?.getD undef), (a.tmps[81]?.getD undef), (a.tmps[82]?.getD undef), (a.tmps[83]?.getD undef), (a.tmps[84]?.getD undef), u85, u86, u87, u88, u89, u90, u91, u92, u93, u94, u95, u96, u97, u98, u99, u100, u101, u102, u103, u104, u105, u106, u107, u108]) (by kernel_rfl)) (HQ.out _ _ _ _ _ _ _ _ _ _ _ _ _ _ _ _ _ _ _ _ _ _ _ _ _ w hN (by rw [e6]; exact g6))
set_option maxHeartbeats 1600000 in
theorem rgt15b {w5 : World} {g eb nl c3 : Nat} {a3 : Option Addr} {nv left : Int} {s : List UInt8}
    (PG : Hid (w5.heap[g]? = some (.cells #[.int .i64 left, .int .i64 (nl : Int)] 201 (0, 0))))
    (PE : Hid (w5.heap[eb]? = some (.cells (exA 2 s nv a3 0 c3) 132 (0, 0))))
    (X0 : Hid (decide ((0 : Int) ≤ nv) = false))
    {u1 u2 u3 u5 u6 u7 u8 u10 u11 u12 u13 u14 u15 u16 u17 u18 u19 u20 u21 u22 u23 u24 u25 u26 u27 u28 u29 u30 u31 u32 u33 u34 u35 u36 u37 u38 u39 u40 u41 u42 u43 u44 u45 u46 u47 u48 u49 u50 u51 u52 u53 u54 u55 u56 u57 u58 u59 u60 u61 u62 u63 u64 u65 u66 u67 u68 u69 u70 u71 u72 u73 u74 u75 u76 u77 u78 u79 u80 u81 u82 u83 u84 u85 u86 u87 u88 u89 u90 u91 u92 u93 u94 u95 u96 u97 u98 u99 u100 u101 u102 u103 u104 u105 u106 u107 u108 : Value} {Q : Exit → Act → World → Prop}
    (hQ : ∀ (s6 s61 s62 s63 s64 s65 s66 s67 s68 s69 s70 s71 s72 s73 s74 s75 s76 s77 s78 s79 s80 s81 s82 s83 s84 : Value) (wx : World), Nw w5 wx → s6 = .bool false → Q .normal ⟨#[.pointer (some ⟨g, 0, none⟩), u1, u2, u3, .pointer (some ⟨eb, 0, none⟩), u5, s6, u7, u8, .int .i64 0, u10, u11, u12, u13, u14, u15, u16, u17, u18, u19, u20, u21, u22, u23, u24, u25, u26, u27, u28, u29, u30, u31, u32, u33, u34, u35, u36, u37, u38, u39, u40, u41, u42, u43, u44, u45, u46, u47, u48, u49, u50, u51, u52, u53, u54, u55, u56, u57, u58, u59, u60, s61, s62, s63, s64, s65, s66, s67, s68, s69, s70, s71, s72, s73, s74, s75, s76, s77, s78, s79, s80, s81, s82, s83, s84, u85, u86, u87, u88, u89, u90, u91, u92, u93, u94, u95, u96, u97, u98, u99, u100, u101, u102, u103, u104, u105, u106, u107, u108], []⟩ wx) :
    Code.wp Tryz.prog ((Tryz.f120.body.bind (regionOf 15)).getD .skip) Q ⟨#[.pointer (some ⟨g, 0, none⟩), u1, u2, u3, .pointer (some ⟨eb, 0, none⟩), u5, u6, u7, u8, .int .i64 0, u10, u11, u12, u13, u14, u15, u16, u17, u18, u19, u20, u21, u22, u23, u24, u25, u26, u27, u28, u29, u30, u31, u32, u33, u34, u35, u36, u37, u38, u39, u40, u41, u42, u43, u44, u45, u46, u47, u48, u49, u50, u51, u52, u53, u54, u55, u56, u57, u58, u59, u60, u61, u62, u63, u64, u65, u66, u67, u68, u69, u70, u71, u72, u73, u74, u75, u76, u77, u78, u79, u80, u81, u82, u83, u84, u85, u86, u87, u88, u89, u90, u91, u92, u93, u94, u95, u96, u97, u98, u99, u100, u101, u102, u103, u104, u105, u106, u107, u108], []⟩ w5 := by
  (try dsimp only at hQ ⊢)
  conv => arg 2; whnf
  have HQ := Lib.hid hQ
  clear hQ
  refine name_act fun A hA => ?_
  have hA0 : A.tmps[0]? = some (.pointer (some ⟨g, 0, none⟩)) := by rw [hA]; rfl
  have hA4 : A.tmps[4]? = some (.pointer (some ⟨eb, 0, none⟩)) := by rw [hA]; rfl
  have hA9 : A.tmps[9]? = some (.int .i64 0) := by rw [hA]; rfl
  have hlt0 : ∀ d ∈ ([61, 62, 63, 64, 65, 66, 67, 68, 69, 70, 71, 72, 73, 74, 75, 76, 77, 78, 79, 80, 81, 82, 83, 84, 6] : List Nat), d < 109 := by decide
  refine wp_region_tab [61, 62, 63, 64, 65, 66, 67, 68, 69, 70, 71, 72, 73, 74, 75, 76, 77, 78, 79, 80, 81, 82, 83, 84, 6] [isV (.int .i64 0), isV (.bool true), isV (.bool true), isV (.pointer (some ⟨eb, 2, none⟩)), isV (.int .i64 nv), isV (.bool false), isV (.bool false), isV (.bool false), isV (undef), isV (undef), isV (undef), isV (undef), isV (undef), isV (undef), isV (undef), isV (.bool false), isV (.bool false), isV (undef), isV (undef), isV (undef), isV (undef), isV (undef), isV (undef), isV (.bool false), isV (.bool false)] (by kernel_rfl) (by kernel_rfl) (by kernel_rfl) (of_decide_eq_true (by kernel_rfl)) (fun d hd => by rw [hA]; exact hlt0 d hd) (fun L hL => ⟨?a0, ?a1, ?a2, ?a3, ?a4, ?a5, ?a6, ?a7, ?a8, ?a9, ?a10, ?a11, ?a12, ?a13, ?a14, ?a15, ?a16, ?a17, ?a18, ?a19, ?a20, ?a21, ?a22, ?a23, ?a24, trivial⟩) ?he
  · intro a w hN old new
    have e9 := old 9 (.int .i64 0) rfl hA9
    exact OpOk.val (.int .i64 0) (w_none rfl) [(9, _)] (forall_cons e9 <| forall_nil) (fun ρ e ⟨c1, c2⟩ => by (try simp only [List.forall_mem_cons] at e); go_simp) ⟨Nw.refl _, rfl⟩
  · intro a w hN old new
    obtain ⟨y61, e61, g61⟩ := new 0 61 rfl rfl
    obtain rfl : y61 = .int .i64 0 := g61
    exact OpOk.val (.bool true) (w_none rfl) [(61, _)] (forall_cons e61 <| forall_nil) (fun ρ e ⟨c1, c2⟩ => by (try simp only [List.forall_mem_cons] at e); go_simp) ⟨Nw.refl _, rfl⟩
  · intro a w hN old new
    obtain ⟨y62, e62, g62⟩ := new 1 62 rfl rfl
    obtain rfl : y62 = .bool true := g62
    exact OpOk.val (.bool true) (w_none rfl) [(62, _)] (forall_cons e62 <| forall_nil) (fun ρ e ⟨c1, c2⟩ => by (try simp only [List.forall_mem_cons] at e); go_simp) ⟨Nw.refl _, rfl⟩
  · intro a w hN old new
    obtain ⟨y63, e63, g63⟩ := new 2 63 rfl rfl
    obtain rfl : y63 = .bool true := g63
    have e4 := old 4 (.pointer (some ⟨eb, 0, none⟩)) rfl hA4
    exact OpOk.val (.pointer (some ⟨eb, 2, none⟩)) (tab_yes hL rfl rfl e63) [(4, _)] (forall_cons e4 <| forall_nil) (fun ρ e ⟨c1, c2⟩ => by (try simp only [List.forall_mem_cons] at e); go_simp) ⟨Nw.refl _, rfl⟩
  · intro a w hN old new
    obtain ⟨y63, e63, g63⟩ := new 2 63 rfl rfl
    obtain rfl : y63 = .bool true := g63
    obtain ⟨y64, e64, g64⟩ := new 3 64 rfl rfl
    obtain rfl : y64 = .pointer (some ⟨eb, 2, none⟩) := g64
    have hp := hN.at_ PE.out
    obtain ⟨q0, q1, q2, q3, qf⟩ := box4 hp
    exact OpOk.val (.int .i64 nv) (tab_yes hL rfl rfl e63) [(64, _)] (forall_cons e64 <| forall_nil) (fun ρ e ⟨c1, c2⟩ => by (try simp only [List.forall_mem_cons] at e); go_simp) ⟨Nw.refl _, rfl⟩
  · intro a w hN old new
    obtain ⟨y63, e63, g63⟩ := new 2 63 rfl rfl
    obtain rfl : y63 = .bool true := g63
    obtain ⟨y65, e65, g65⟩ := new 4 65 rfl rfl
    obtain rfl : y65 = .int .i64 nv := g65
    have hx := X0.out
    exact OpOk.val (.bool false) (tab_yes hL rfl rfl e63) [(65, _)] (forall_cons e65 <| forall_nil) (fun ρ e ⟨c1, c2⟩ => by (try simp only [List.forall_mem_cons] at e); go_simp) ⟨Nw.refl _, rfl⟩
  · intro a w hN old new
    obtain ⟨y63, e63, g63⟩ := new 2 63 rfl rfl
    obtain rfl : y63 = .bool true := g63
    obtain ⟨y66, e66, g66⟩ := new 5 66 rfl rfl
    obtain rfl : y66 = .bool false := g66
    exact OpOk.val (.bool false) (w_none rfl) [(63, _), (66, _)] (forall_cons e63 <| forall_cons e66 <| forall_nil) (fun ρ e ⟨c1, c2⟩ => by (try simp only [List.forall_mem_cons] at e); go_simp) ⟨Nw.refl _, rfl⟩
  · intro a w hN old new
    obtain ⟨y67, e67, g67⟩ := new 6 67 rfl rfl
    obtain rfl : y67 = .bool false := g67
    exact OpOk.val (.bool false) (w_none rfl) [(67, _)] (forall_cons e67 <| forall_nil) (fun ρ e ⟨c1, c2⟩ => by (try simp only [List.forall_mem_cons] at e); go_simp) ⟨Nw.refl _, rfl⟩
  · intro a w hN old new
    obtain ⟨y68, e68, g68⟩ := new 7 68 rfl rfl
    obtain rfl : y68 = .bool false := g68
    exact OpOk.skip (tab_no hL rfl rfl e68) ⟨Nw.refl _, rfl⟩
  · intro a w hN old new
    obtain ⟨y68, e68, g68⟩ := new 7 68 rfl rfl
    obtain rfl : y68 = .bool false := g68
    exact OpOk.skip (tab_no hL rfl rfl e68) ⟨Nw.refl _, rfl⟩
  · intro a w hN old new
    obtain ⟨y68, e68, g68⟩ := new 7 68 rfl rfl
    obtain rfl : y68 = .bool false := g68
    exact OpOk.skip (tab_no hL rfl rfl e68) ⟨Nw.refl _, rfl⟩
  · intro a w hN old new
    obtain ⟨y68, e68, g68⟩ := new 7 68 rfl rfl
    obtain rfl : y68 = .bool false := g68
    exact OpOk.skip (tab_no hL rfl rfl e68) ⟨Nw.refl _, rfl⟩
  · intro a w hN old new
    obtain ⟨y68, e68, g68⟩ := new 7 68 rfl rfl
    obtain rfl : y68 = .bool false := g68
    exact OpOk.skip (tab_no hL rfl rfl e68) ⟨Nw.refl _, rfl⟩
  · intro a w hN old new
    obtain ⟨y68, e68, g68⟩ := new 7 68 rfl rfl
    obtain rfl : y68 = .bool false := g68
    exact OpOk.skip (tab_no hL rfl rfl e68) ⟨Nw.refl _, rfl⟩
  · intro a w hN old new
    obtain ⟨y68, e68, g68⟩ := new 7 68 rfl rfl
    obtain rfl : y68 = .bool false := g68
    exact OpOk.skip (tab_no hL rfl rfl e68) ⟨Nw.refl _, rfl⟩
  · intro a w hN old new
    obtain ⟨y68, e68, g68⟩ := new 7 68 rfl rfl
    obtain rfl : y68 = .bool false := g68
    obtain ⟨y75, e75, g75⟩ := new 14 75 rfl rfl
    obtain rfl : y75 = undef := g75
    exact OpOk.val (.bool false) (w_none rfl) [(68, _), (75, _)] (forall_cons e68 <| forall_cons e75 <| forall_nil) (fun ρ e ⟨c1, c2⟩ => by (try simp only [List.forall_mem_cons] at e); go_simp) ⟨Nw.refl _, rfl⟩
  · intro a w hN old new
    obtain ⟨y76, e76, g76⟩ := new 15 76 rfl rfl
    obtain rfl : y76 = .bool false := g76
    exact OpOk.val (.bool false) (w_none rfl) [(76, _)] (forall_cons e76 <| forall_nil) (fun ρ e ⟨c1, c2⟩ => by (try simp only [List.forall_mem_cons] at e); go_simp) ⟨Nw.refl _, rfl⟩
  · intro a w hN old new
    obtain ⟨y77, e77, g77⟩ := new 16 77 rfl rfl
    obtain rfl : y77 = .bool false := g77
    exact OpOk.skip (tab_no hL rfl rfl e77) ⟨Nw.refl _, rfl⟩
  · intro a w hN old new
    obtain ⟨y77, e77, g77⟩ := new 16 77 rfl rfl
    obtain rfl : y77 = .bool false := g77
    exact OpOk.skip (tab_no hL rfl rfl e77) ⟨Nw.refl _, rfl⟩
  · intro a w hN old new
    obtain ⟨y77, e77, g77⟩ := new 16 77 rfl rfl
    obtain rfl : y77 = .bool false := g77
    exact OpOk.skip (tab_no hL rfl rfl e77) ⟨Nw.refl _, rfl⟩
  · intro a w hN old new
    obtain ⟨y77, e77, g77⟩ := new 16 77 rfl rfl
    obtain rfl : y77 = .bool false := g77
    exact OpOk.skip (tab_no hL rfl rfl e77) ⟨Nw.refl _, rfl⟩
  · intro a w hN old new
    obtain ⟨y77, e77, g77⟩ := new 16 77 rfl rfl
    obtain rfl : y77 = .bool false := g77
    exact OpOk.skip (tab_no hL rfl rfl e77) ⟨Nw.refl _, rfl⟩
  · intro a w hN old new
    obtain ⟨y77, e77, g77⟩ := new 16 77 rfl rfl
    obtain rfl : y77 = .bool false := g77
    exact OpOk.skip (tab_no hL rfl rfl e77) ⟨Nw.refl _, rfl⟩
  · intro a w hN old new
    obtain ⟨y77, e77, g77⟩ := new 16 77 rfl rfl
    obtain rfl : y77 = .bool false := g77
    obtain ⟨y83, e83, g83⟩ := new 22 83 rfl rfl
    obtain rfl : y83 = undef := g83
    exact OpOk.val (.bool false) (w_none rfl) [(77, _), (83, _)] (forall_cons e77 <| forall_cons e83 <| forall_nil) (fun ρ e ⟨c1, c2⟩ => by (try simp only [List.forall_mem_cons] at e); go_simp) ⟨Nw.refl _, rfl⟩
  · intro a w hN old new
    obtain ⟨y84, e84, g84⟩ := new 23 84 rfl rfl
    obtain rfl : y84 = .bool false := g84
    exact OpOk.val (.bool false) (w_none rfl) [(84, _)] (forall_cons e84 <| forall_nil) (fun ρ e ⟨c1, c2⟩ => by (try simp only [List.forall_mem_cons] at e); go_simp) ⟨Nw.refl _, rfl⟩
  · intro a w hN hsz hdf old new
    obtain ⟨y6, e6, g6⟩ := new 24 6 rfl
    exact tab_frame (frame_lit (dst := [61, 62, 63, 64, 65, 66, 67, 68, 69, 70, 71, 72, 73, 74, 75, 76, 77, 78, 79, 80, 81, 82, 83, 84, 6]) (l := [.pointer (some ⟨g, 0, none⟩), u1, u2, u3, .pointer (some ⟨eb, 0, none⟩), u5, u6, u7, u8, .int .i64 0, u10, u11, u12, u13, u14, u15, u16, u17, u18, u19, u20, u21, u22, u23, u24, u25, u26, u27, u28, u29, u30, u31, u32, u33, u34, u35, u36, u37, u38, u39, u40, u41, u42, u43, u44, u45, u46, u47, u48, u49, u50, u51, u52, u53, u54, u55, u56, u57, u58, u59, u60, u61, u62, u63, u64, u65, u66, u67, u68, u69, u70, u71, u72, u73, u74, u75, u76, u77, u78, u79, u80, u81, u82, u83, u84, u85, u86, u87, u88, u89, u90, u91, u92, u93, u94, u95, u96, u97, u98, u99, u100, u101, u102, u103, u104, u105, u106, u107, u108]) hA hsz hdf old (l' := [.pointer (some ⟨g, 0, none⟩), u1, u2, u3, .pointer (some ⟨eb, 0, none⟩), u5, (a.tmps[6]?.getD undef), u7, u8, .int .i64 0, u10, u11, u12, u13, u14, u15, u16, u17, u18, u19, u20, u21, u22, u23, u24, u25, u26, u27, u28, u29, u30, u31, u32, u33, u34, u35, u36, u37, u38, u39, u40, u41, u42, u43, u44, u45, u46, u47, u48, u49, u50, u51, u52, u53, u54, u55, u56, u57, u58, u59, u60, (a.tmps[61]?.getD undef), (a.tmps[62]?.getD undef), (a.tmps[63]?.getD undef), (a.tmps[64]?.getD undef), (a.tmps[65]?.getD undef), (a.tmps[66]?.getD undef), (a.tmps[67]?.getD undef), (a.tmps[68]?.getD undef), (a.tmps[69]?.getD undef), (a.tmps[70]?.getD undef), (a.tmps[71]?.getD undef), (a.tmps[72]?.getD undef), (a.tmps[73]?.getD undef), (a.tmps[74]?.getD undef), (a.tmps[75]?.getD undef), (a.tmps[76]?.getD undef), (a.tmps[77]?.getD undef), (a.tmps[78]?.getD undef), (a.tmps[79]?.getD undef), (a.tmps[80]?.getD undef), (a.tmps[81]?.getD undef), (a.tmps[82]?.getD undef), (a.tmps[83]?.getD undef), (a.tmps[84]?.getD undef), u85, u86, u87, u88, u89, u90, u91, u92, u93, u94, u95, u96, u97, u98, u99, u100, u101, u102, u103, u104, u105, u106, u107, u108]) (by kernel_rfl)) (HQ.out _ _ _ _ _ _ _ _ _ _ _ _ _ _ _ _ _ _ _ _ _ _ _ _ _ w hN (by rw [e6]; exact g6))
set_option maxHeartbeats 1600000 in
theorem rgt15c {w5 : World} {g eb nl c3 : Nat} {a3 : Option Addr} {nv left : Int} {s : List UInt8}
    (PG : Hid (w5.heap[g]? = some (.cells #[.int .i64 left, .int .i64 (nl : Int)] 201 (0, 0))))
    (PE : Hid (w5.heap[eb]? = some (.cells (exA 2 s nv a3 0 c3) 132 (0, 0))))
    (X0 : Hid (decide ((0 : Int) ≤ nv) = true)) (X1 : Hid (decide (nv < (nl : Int)) = false))
    {u1 u2 u3 u5 u6 u7 u8 u10 u11 u12 u13 u14 u15 u16 u17 u18 u19 u20 u21 u22 u23 u24 u25 u26 u27 u28 u29 u30 u31 u32 u33 u34 u35 u36 u37 u38 u39 u40 u41 u42 u43 u44 u45 u46 u47 u48 u49 u50 u51 u52 u53 u54 u55 u56 u57 u58 u59 u60 u61 u62 u63 u64 u65 u66 u67 u68 u69 u70 u71 u72 u73 u74 u75 u76 u77 u78 u79 u80 u81 u82 u83 u84 u85 u86 u87 u88 u89 u90 u91 u92 u93 u94 u95 u96 u97 u98 u99 u100 u101 u102 u103 u104 u105 u106 u107 u108 : Value} {Q : Exit → Act → World → Prop}
    (hQ : ∀ (s6 s61 s62 s63 s64 s65 s66 s67 s68 s69 s70 s71 s72 s73 s74 s75 s76 s77 s78 s79 s80 s81 s82 s83 s84 : Value) (wx : World), Nw w5 wx → s6 = .bool false → Q .normal ⟨#[.pointer (some ⟨g, 0, none⟩), u1, u2, u3, .pointer (some ⟨eb, 0, none⟩), u5, s6, u7, u8, .int .i64 0, u10, u11, u12, u13, u14, u15, u16, u17, u18, u19, u20, u21, u22, u23, u24, u25, u26, u27, u28, u29, u30, u31, u32, u33, u34, u35, u36, u37, u38, u39, u40, u41, u42, u43, u44, u45, u46, u47, u48, u49, u50, u51, u52, u53, u54, u55, u56, u57, u58, u59, u60, s61, s62, s63, s64, s65, s66, s67, s68, s69, s70, s71, s72, s73, s74, s75, s76, s77, s78, s79, s80, s81, s82, s83, s84, u85, u86, u87, u88, u89, u90, u91, u92, u93, u94, u95, u96, u97, u98, u99, u100, u101, u102, u103, u104, u105, u106, u107, u108], []⟩ wx) :
    Code.wp Tryz.prog ((Tryz.f120.body.bind (regionOf 15)).getD .skip) Q ⟨#[.pointer (some ⟨g, 0, none⟩), u1, u2, u3, .pointer (some ⟨eb, 0, none⟩), u5, u6, u7, u8, .int .i64 0, u10, u11, u12, u13, u14, u15, u16, u17, u18, u19, u20, u21, u22, u23, u24, u25, u26, u27, u28, u29, u30, u31, u32, u33, u34, u35, u36, u37, u38, u39, u40, u41, u42, u43, u44, u45, u46, u47, u48, u49, u50, u51, u52, u53, u54, u55, u56, u57, u58, u59, u60, u61, u62, u63, u64, u65, u66, u67, u68, u69, u70, u71, u72, u73, u74, u75, u76, u77, u78, u79, u80, u81, u82, u83, u84, u85, u86, u87, u88, u89, u90, u91, u92, u93, u94, u95, u96, u97, u98, u99, u100, u101, u102, u103, u104, u105, u106, u107, u108], []⟩ w5 := by
  (try dsimp only at hQ ⊢)
  conv => arg 2; whnf
  have HQ := Lib.hid hQ
  clear hQ
  refine name_act fun A hA => ?_
  have hA0 : A.tmps[0]? = some (.pointer (some ⟨g, 0, none⟩)) := by rw [hA]; rfl
  have hA4 : A.tmps[4]? = some (.pointer (some ⟨eb, 0, none⟩)) := by rw [hA]; rfl
  have hA9 : A.tmps[9]? = some (.int .i64 0) := by rw [hA]; rfl
  have hlt0 : ∀ d ∈ ([61, 62, 63, 64, 65, 66, 67, 68, 69, 70, 71, 72, 73, 74, 75, 76, 77, 78, 79, 80, 81, 82, 83, 84, 6] : List Nat), d < 109 := by decide
  refine wp_region_tab [61, 62, 63, 64, 65, 66, 67, 68, 69, 70, 71, 72, 73, 74, 75, 76, 77, 78, 79, 80, 81, 82, 83, 84, 6] [isV (.int .i64 0), isV (.bool true), isV (.bool true), isV (.pointer (some ⟨eb, 2, none⟩)), isV (.int .i64 nv), isV (.bool true), isV (.bool true), isV (.bool true), isV (.pointer (some ⟨eb, 2, none⟩)), isV (.int .i64 nv), isV (.pointer (some ⟨g, 0, none⟩)), isV (.pointer (some ⟨g, 0, none⟩)), isV (.pointer (some ⟨g, 1, none⟩)), isV (.int .i64 (nl : Int)), isV (.bool false), isV (.bool false), isV (.bool false), isV (undef), isV (undef), isV (undef), isV (undef), isV (undef), isV (undef), isV (.bool false), isV (.bool false)] (by kernel_rfl) (by kernel_rfl) (by kernel_rfl) (of_decide_eq_true (by kernel_rfl)) (fun d hd => by rw [hA]; exact hlt0 d hd) (fun L hL => ⟨?a0, ?a1, ?a2, ?a3, ?a4, ?a5, ?a6, ?a7, ?a8, ?a9, ?a10, ?a11, ?a12, ?a13, ?a14, ?a15, ?a16, ?a17, ?a18, ?a19, ?a20, ?a21, ?a22, ?a23, ?a24, trivial⟩) ?he
  · intro a w hN old new
    have e9 := old 9 (.int .i64 0) rfl hA9
    exact OpOk.val (.int .i64 0) (w_none rfl) [(9, _)] (forall_cons e9 <| forall_nil) (fun ρ e ⟨c1, c2⟩ => by (try simp only [List.forall_mem_cons] at e); go_simp) ⟨Nw.refl _, rfl⟩
  · intro a w hN old new
    obtain ⟨y61, e61, g61⟩ := new 0 61 rfl rfl
    obtain rfl : y61 = .int .i64 0 := g61
    exact OpOk.val (.bool true) (w_none rfl) [(61, _)] (forall_cons e61 <| forall_nil) (fun ρ e ⟨c1, c2⟩ => by (try simp only [List.forall_mem_cons] at e); go_simp) ⟨Nw.refl _, rfl⟩
  · intro a w hN old new
    obtain ⟨y62, e62, g62⟩ := new 1 62 rfl rfl
    obtain rfl : y62 = .bool true := g62
    exact OpOk.val (.bool true) (w_none rfl) [(62, _)] (forall_cons e62 <| forall_nil) (fun ρ e ⟨c1, c2⟩ => by (try simp only [List.forall_mem_cons] at e); go_simp) ⟨Nw.refl _, rfl⟩
  · intro a w hN old new
    obtain ⟨y63, e63, g63⟩ := new 2 63 rfl rfl
    obtain rfl : y63 = .bool true := g63
    have e4 := old 4 (.pointer (some ⟨eb, 0, none⟩)) rfl hA4
    exact OpOk.val (.pointer (some ⟨eb, 2, none⟩)) (tab_yes hL rfl rfl e63) [(4, _)] (forall_cons e4 <| forall_nil) (fun ρ e ⟨c1, c2⟩ => by (try simp only [List.forall_mem_cons] at e); go_simp) ⟨Nw.refl _, rfl⟩
  · intro a w hN old new
    obtain ⟨y63, e63, g63⟩ := new 2 63 rfl rfl
    obtain rfl : y63 = .bool true := g63
    obtain ⟨y64, e64, g64⟩ := new 3 64 rfl rfl
    obtain rfl : y64 = .pointer (some ⟨eb, 2, none⟩) := g64
    have hp := hN.at_ PE.out
    obtain ⟨q0, q1, q2, q3, qf⟩ := box4 hp
    exact OpOk.val (.int .i64 nv) (tab_yes hL rfl rfl e63) [(64, _)] (forall_cons e64 <| forall_nil) (fun ρ e ⟨c1, c2⟩ => by (try simp only [List.forall_mem_cons] at e); go_simp) ⟨Nw.refl _, rfl⟩
  · intro a w hN old new
    obtain ⟨y63, e63, g63⟩ := new 2 63 rfl rfl
    obtain rfl : y63 = .bool true := g63
    obtain ⟨y65, e65, g65⟩ := new 4 65 rfl rfl
    obtain rfl : y65 = .int .i64 nv := g65
    have hx := X0.out
    exact OpOk.val (.bool true) (tab_yes hL rfl rfl e63) [(65, _)] (forall_cons e65 <| forall_nil) (fun ρ e ⟨c1, c2⟩ => by (try simp only [List.forall_mem_cons] at e); go_simp) ⟨Nw.refl _, rfl⟩
  · intro a w hN old new
    obtain ⟨y63, e63, g63⟩ := new 2 63 rfl rfl
    obtain rfl : y63 = .bool true := g63
    obtain ⟨y66, e66, g66⟩ := new 5 66 rfl rfl
    obtain rfl : y66 = .bool true := g66
    exact OpOk.val (.bool true) (w_none rfl) [(63, _), (66, _)] (forall_cons e63 <| forall_cons e66 <| forall_nil) (fun ρ e ⟨c1, c2⟩ => by (try simp only [List.forall_mem_cons] at e); go_simp) ⟨Nw.refl _, rfl⟩
  · intro a w hN old new
    obtain ⟨y67, e67, g67⟩ := new 6 67 rfl rfl
    obtain rfl : y67 = .bool true := g67
    exact OpOk.val (.bool true) (w_none rfl) [(67, _)] (forall_cons e67 <| forall_nil) (fun ρ e ⟨c1, c2⟩ => by (try simp only [List.forall_mem_cons] at e); go_simp) ⟨Nw.refl _, rfl⟩
  · intro a w hN old new
    obtain ⟨y68, e68, g68⟩ := new 7 68 rfl rfl
    obtain rfl : y68 = .bool true := g68
    have e4 := old 4 (.pointer (some ⟨eb, 0, none⟩)) rfl hA4
    exact OpOk.val (.pointer (some ⟨eb, 2, none⟩)) (tab_yes hL rfl rfl e68) [(4, _)] (forall_cons e4 <| forall_nil) (fun ρ e ⟨c1, c2⟩ => by (try simp only [List.forall_mem_cons] at e); go_simp) ⟨Nw.refl _, rfl⟩
  · intro a w hN old new
    obtain ⟨y68, e68, g68⟩ := new 7 68 rfl rfl
    obtain rfl : y68 = .bool true := g68
    obtain ⟨y69, e69, g69⟩ := new 8 69 rfl rfl
    obtain rfl : y69 = .pointer (some ⟨eb, 2, none⟩) := g69
    have hp := hN.at_ PE.out
    obtain ⟨q0, q1, q2, q3, qf⟩ := box4 hp
    exact OpOk.val (.int .i64 nv) (tab_yes hL rfl rfl e68) [(69, _)] (forall_cons e69 <| forall_nil) (fun ρ e ⟨c1, c2⟩ => by (try simp only [List.forall_mem_cons] at e); go_simp) ⟨Nw.refl _, rfl⟩
  · intro a w hN old new
    obtain ⟨y68, e68, g68⟩ := new 7 68 rfl rfl
    obtain rfl : y68 = .bool true := g68
    have e0 := old 0 (.pointer (some ⟨g, 0, none⟩)) rfl hA0
    exact OpOk.val (.pointer (some ⟨g, 0, none⟩)) (tab_yes hL rfl rfl e68) [(0, _)] (forall_cons e0 <| forall_nil) (fun ρ e ⟨c1, c2⟩ => by (try simp only [List.forall_mem_cons] at e); go_simp) ⟨Nw.refl _, rfl⟩
  · intro a w hN old new
    obtain ⟨y68, e68, g68⟩ := new 7 68 rfl rfl
    obtain rfl : y68 = .bool true := g68
    obtain ⟨y71, e71, g71⟩ := new 10 71 rfl rfl
    obtain rfl : y71 = .pointer (some ⟨g, 0, none⟩) := g71
    exact OpOk.val (.pointer (some ⟨g, 0, none⟩)) (tab_yes hL rfl rfl e68) [(71, _)] (forall_cons e71 <| forall_nil) (fun ρ e ⟨c1, c2⟩ => by (try simp only [List.forall_mem_cons] at e); go_simp) ⟨Nw.refl _, rfl⟩
  · intro a w hN old new
    obtain ⟨y68, e68, g68⟩ := new 7 68 rfl rfl
    obtain rfl : y68 = .bool true := g68
    obtain ⟨y72, e72, g72⟩ := new 11 72 rfl rfl
    obtain rfl : y72 = .pointer (some ⟨g, 0, none⟩) := g72
    exact OpOk.val (.pointer (some ⟨g, 1, none⟩)) (tab_yes hL rfl rfl e68) [(72, _)] (forall_cons e72 <| forall_nil) (fun ρ e ⟨c1, c2⟩ => by (try simp only [List.forall_mem_cons] at e); go_simp) ⟨Nw.refl _, rfl⟩
  · intro a w hN old new
    obtain ⟨y68, e68, g68⟩ := new 7 68 rfl rfl
    obtain rfl : y68 = .bool true := g68
    obtain ⟨y73, e73, g73⟩ := new 12 73 rfl rfl
    obtain rfl : y73 = .pointer (some ⟨g, 1, none⟩) := g73
    have hp := hN.at_ PG.out
    obtain ⟨q0, q1, qf⟩ := box2 hp
    exact OpOk.val (.int .i64 (nl : Int)) (tab_yes hL rfl rfl e68) [(73, _)] (forall_cons e73 <| forall_nil) (fun ρ e ⟨c1, c2⟩ => by (try simp only [List.forall_mem_cons] at e); go_simp) ⟨Nw.refl _, rfl⟩
  · intro a w hN old new
    obtain ⟨y68, e68, g68⟩ := new 7 68 rfl rfl
    obtain rfl : y68 = .bool true := g68
    obtain ⟨y70, e70, g70⟩ := new 9 70 rfl rfl
    obtain rfl : y70 = .int .i64 nv := g70
    obtain ⟨y74, e74, g74⟩ := new 13 74 rfl rfl
    obtain rfl : y74 = .int .i64 (nl : Int) := g74
    have hx := X1.out
    exact OpOk.val (.bool false) (tab_yes hL rfl rfl e68) [(70, _), (74, _)] (forall_cons e70 <| forall_cons e74 <| forall_nil) (fun ρ e ⟨c1, c2⟩ => by (try simp only [List.forall_mem_cons] at e); go_simp) ⟨Nw.refl _, rfl⟩
  · intro a w hN old new
    obtain ⟨y68, e68, g68⟩ := new 7 68 rfl rfl
    obtain rfl : y68 = .bool true := g68
    obtain ⟨y75, e75, g75⟩ := new 14 75 rfl rfl
    obtain rfl : y75 = .bool false := g75
    exact OpOk.val (.bool false) (w_none rfl) [(68, _), (75, _)] (forall_cons e68 <| forall_cons e75 <| forall_nil) (fun ρ e ⟨c1, c2⟩ => by (try simp only [List.forall_mem_cons] at e); go_simp) ⟨Nw.refl _, rfl⟩
  · intro a w hN old new
    obtain ⟨y76, e76, g76⟩ := new 15 76 rfl rfl
    obtain rfl : y76 = .bool false := g76
    exact OpOk.val (.bool false) (w_none rfl) [(76, _)] (forall_cons e76 <| forall_nil) (fun ρ e ⟨c1, c2⟩ => by (try simp only [List.forall_mem_cons] at e); go_simp) ⟨Nw.refl _, rfl⟩
  · intro a w hN old new
    obtain ⟨y77, e77, g77⟩ := new 16 77 rfl rfl
    obtain rfl : y77 = .bool false := g77
    exact OpOk.skip (tab_no hL rfl rfl e77) ⟨Nw.refl _, rfl⟩
  · intro a w hN old new
    obtain ⟨y77, e77, g77⟩ := new 16 77 rfl rfl
    obtain rfl : y77 = .bool false := g77
    exact OpOk.skip (tab_no hL rfl rfl e77) ⟨Nw.refl _, rfl⟩
  · intro a w hN old new
    obtain ⟨y77, e77, g77⟩ := new 16 77 rfl rfl
    obtain rfl : y77 = .bool false := g77
    exact OpOk.skip (tab_no hL rfl rfl e77) ⟨Nw.refl _, rfl⟩
  · intro a w hN old new
    obtain ⟨y77, e77, g77⟩ := new 16 77 rfl rfl
    obtain rfl : y77 = .bool false := g77
    exact OpOk.skip (tab_no hL rfl rfl e77) ⟨Nw.refl _, rfl⟩
  · intro a w hN old new
    obtain ⟨y77, e77, g77⟩ := new 16 77 rfl rfl
    obtain rfl : y77 = .bool false := g77
    exact OpOk.skip (tab_no hL rfl rfl e77) ⟨Nw.refl _, rfl⟩
  · intro a w hN old new
    obtain ⟨y77, e77, g77⟩ := new 16 77 rfl rfl
    obtain rfl : y77 = .bool false := g77
    exact OpOk.skip (tab_no hL rfl rfl e77) ⟨Nw.refl _, rfl⟩
  · intro a w hN old new
    obtain ⟨y77, e77, g77⟩ := new 16 77 rfl rfl
    obtain rfl : y77 = .bool false := g77
    obtain ⟨y83, e83, g83⟩ := new 22 83 rfl rfl
    obtain rfl : y83 = undef := g83
    exact OpOk.val (.bool false) (w_none rfl) [(77, _), (83, _)] (forall_cons e77 <| forall_cons e83 <| forall_nil) (fun ρ e ⟨c1, c2⟩ => by (try simp only [List.forall_mem_cons] at e); go_simp) ⟨Nw.refl _, rfl⟩
  · intro a w hN old new
    obtain ⟨y84, e84, g84⟩ := new 23 84 rfl rfl
    obtain rfl : y84 = .bool false := g84
    exact OpOk.val (.bool false) (w_none rfl) [(84, _)] (forall_cons e84 <| forall_nil) (fun ρ e ⟨c1, c2⟩ => by (try simp only [List.forall_mem_cons] at e); go_simp) ⟨Nw.refl _, rfl⟩
  · intro a w hN hsz hdf old new
    obtain ⟨y6, e6, g6⟩ := new 24 6 rfl
    exact tab_frame (frame_lit (dst := [61, 62, 63, 64, 65, 66, 67, 68, 69, 70, 71, 72, 73, 74, 75, 76, 77, 78, 79, 80, 81, 82, 83, 84, 6]) (l := [.pointer (some ⟨g, 0, none⟩), u1, u2, u3, .pointer (some ⟨eb, 0, none⟩), u5, u6, u7, u8, .int .i64 0, u10, u11, u12, u13, u14, u15, u16, u17, u18, u19, u20, u21, u22, u23, u24, u25, u26, u27, u28, u29, u30, u31, u32, u33, u34, u35, u36, u37, u38, u39, u40, u41, u42, u43, u44, u45, u46, u47, u48, u49, u50, u51, u52, u53, u54, u55, u56, u57, u58, u59, u60, u61, u62, u63, u64, u65, u66, u67, u68, u69, u70, u71, u72, u73, u74, u75, u76, u77, u78, u79, u80, u81, u82, u83, u84, u85, u86, u87, u88, u89, u90, u91, u92, u93, u94, u95, u96, u97, u98, u99, u100, u101, u102, u103, u104, u105, u106, u107, u108]) hA hsz hdf old (l' := [.pointer (some ⟨g, 0, none⟩), u1, u2, u3, .pointer (some ⟨eb, 0, none⟩), u5, (a.tmps[6]?.getD undef), u7, u8, .int .i64 0, u10, u11, u12, u13, u14, u15, u16, u17, u18, u19, u20, u21, u22, u23, u24, u25, u26, u27, u28, u29, u30, u31, u32, u33, u34, u35, u36, u37, u38, u39, u40, u41, u42, u43, u44, u45, u46, u47, u48, u49, u50, u51, u52, u53, u54, u55, u56, u57, u58, u59, u60, (a.tmps[61]?.getD undef), (a.tmps[62]?.getD undef), (a.tmps[63]?.getD undef), (a.tmps[64]?.getD undef), (a.tmps[65]?.getD undef), (a.tmps[66]?.getD undef), (a.tmps[67]?.getD undef), (a.tmps[68]?.getD undef), (a.tmps[69]?.getD undef), (a.tmps[70]?.getD undef), (a.tmps[71]?.getD undef), (a.tmps[72]?.getD undef), (a.tmps[73]?.getD undef), (a.tmps[74]?.getD undef), (a.tmps[75]?.getD undef), (a.tmps[76]?.getD undef), (a.tmps[77]?.getD undef), (a.tmps[78]?.getD undef), (a.tmps[79]?.getD undef), (a.tmps[80]?.getD undef), (a.tmps[81]?.getD undef), (a.tmps[82]?.getD undef), (a.tmps[83]?.getD undef), (a.tmps[84]?.getD undef), u85, u86, u87, u88, u89, u90, u91, u92, u93, u94, u95, u96, u97, u98, u99, u100, u101, u102, u103, u104, u105, u106, u107, u108]) (by kernel_rfl)) (HQ.out _ _ _ _ _ _ _ _ _ _ _ _ _ _ _ _ _ _ _ _ _ _ _ _ _ w hN (by rw [e6]; exact g6))
theorem rightG_name (s : List UInt8) : rightG true [] [⟨s, [], 0⟩] = nameB s := by
  unfold rightG
  cases h : nameB s <;> simp [thrsG, stsG, h]
end Go.Proofs.YtcmaedoolinijaaGreatDoor
