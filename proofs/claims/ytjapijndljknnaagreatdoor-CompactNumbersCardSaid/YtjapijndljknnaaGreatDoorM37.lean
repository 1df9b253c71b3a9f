/-
  Texts merged by a program of this claim's: CompR, EndUse, KeepUse, Names.
-/
import Derived.Test.YtjapijndljknnaaGreatDoorM35
import Derived.Test.YtjapijndljknnaaGreatDoorM36
import Derived.Test.YtjapijndljknnaaGreatDoorM28
import Derived.Test.YtjapijndljknnaaGreatDoorM32
import Derived.Test.YtjapijndljknnaaGreatDoorM18
import Derived.Test.YtjapijndljknnaaGreatDoorM11
import Derived.Test.YtjapijndljknnaaGreatDoorM27
/-
  compact.Compact: the region that makes the captured disk and name, over a frame of letters. Printed by wip/gen_compr.py.
-/
namespace Go.Proofs.YtjapijndljknnaaGreatDoor
open Go Go.RowKit Go.Sort
set_option maxRecDepth 100000
set_option maxHeartbeats 3200000
/-- A new box of one cell, and what it holds where S is so. -/
def Bx (w5 w : World) (x : Value) (T : TypeId) (S : Prop) (v : Value) : Prop := ∃ pd u, x = .pointer (some ⟨pd, 0, none⟩) ∧ w5.heap.size ≤ pd ∧ w.heap[pd]? = some (.cells #[u] T (0, 0)) ∧ (S → u = v)
section
variable {w5 w w' : World} {x v : Value} {T : TypeId} {S S' : Prop}
theorem Bx.nw (h : Bx w5 w x T S v) (hw : Nw w w') : Bx w5 w' x T S v := by
  obtain ⟨pd, u, h1, h2, h3, h4⟩ := h
  exact ⟨pd, u, h1, h2, hw.at_ h3, h4⟩
theorem Bx.imp (h : Bx w5 w x T S v) (hs : S' → S) : Bx w5 w x T S' v := by
  obtain ⟨pd, u, h1, h2, h3, h4⟩ := h
  exact ⟨pd, u, h1, h2, h3, fun h => h4 (hs h)⟩
theorem Bx.new {u : Value} (hw : Nw w5 w) (hs : S → u = v) : Bx w5 (w.alloc (.cells #[u] T (0, 0))) (.pointer (some ⟨w.heap.size, 0, none⟩)) T S v := ⟨_, u, rfl, hw.size, heap_alloc_new w _, hs⟩
theorem Bx.apart (h : Bx w5 w x T S v) : (.pointer (some ⟨w.heap.size, 0, none⟩) : Value) ≠ x := by
  obtain ⟨pd, u, rfl, h2, h3, h4⟩ := h
  have := lt_of_block h3
  intro hc
  injection hc with hc
  injection hc with hc
  injection hc with hc
  omega
theorem heap_setCell_box_x {pd : Nat} {u z : Value} (h : w.heap[pd]? = some (.cells #[u] T (0, 0))) : (w.setCell ⟨pd, 0, none⟩ z).heap[pd]? = some (.cells #[z] T (0, 0)) := by
  have := heap_setCell_at h 0 z
  simpa using this
theorem Bx.oth (h : Bx w5 w x T S v) (pd : Nat) (z : Value) (hne : x ≠ .pointer (some ⟨pd, 0, none⟩)) : Bx w5 (w.setCell ⟨pd, 0, none⟩ z) x T S v := by
  obtain ⟨g, u, rfl, h2, h3, h4⟩ := h
  refine ⟨g, u, rfl, h2, ?_, h4⟩
  rw [Below.heap_setCell _ _ _ _ (fun hc => hne (by simp only at hc; rw [hc]))]
  exact h3
end
theorem r12 {w5 : World} {xb po p b k : Nat} (HS : Hid (∀ W, Nw w5 W → W.cell? ⟨xb, 0, none⟩ = some (.pointer (some ⟨p, 0, none⟩)) ∧ W.cell? ⟨po, 1, none⟩ = some (.int .i64 k) ∧ xb < W.heap.size ∧ po < W.heap.size)) (hdl : (Lib.decDigits k).length ≤ 20)
    (DK : Hid (∀ W, Nw w5 W → Calls Tryz.prog 30 #[.pointer (some ⟨p, 0, none⟩)] W fun e w' => e = .returned (.pointer (some ⟨b, 0, none⟩)) ∧ W = w'))
    (IT : Hid (∀ W, Nw w5 W → Calls Tryz.prog 93 #[.int .i64 k] W fun e w' => e = .returned (.string ⟨(Lib.decDigits k).toArray⟩) ∧ Nw W w'))
    {u0 u2 u3 u4 u5 u7 u8 u9 u10 u11 u12 u13 u14 u15 u16 u17 u18 u19 u20 u21 u22 u23 u24 u25 u26 u27 u28 u29 u30 u31 u32 u33 u34 u35 u36 u37 u38 u39 u40 u41 u42 u43 u44 u45 u46 u47 u48 u49 u50 u51 u52 u53 u54 u55 u56 u57 u58 u59 u60 u61 u62 u63 u64 u65 u66 u67 u68 u69 u70 u71 u72 u73 u74 u75 u76 u77 u78 u79 u80 u81 u82 u83 u84 u85 u86 u87 : Value} {Q : Exit → Act → World → Prop}
    (hQ : ∀ (x59 x60 x61 x62 x63 x64 : Value) (pd pn : Nat) (wx : World), Nw w5 wx → w5.heap.size ≤ pd → w5.heap.size ≤ pn → wx.heap[pd]? = some (.cells #[.pointer (some ⟨b, 0, none⟩)] 23 (0, 0)) → wx.heap[pn]? = some (.cells #[.string ⟨(dName k).toArray⟩] 9 (0, 0)) →
      Q .normal ⟨#[u0, .pointer (some ⟨xb, 0, none⟩), u2, u3, u4, u5, .pointer (some ⟨po, 0, none⟩), u7, u8, .pointer (some ⟨pd, 0, none⟩), .pointer (some ⟨pn, 0, none⟩), u11, u12, u13, u14, u15, u16, u17, u18, u19, u20, u21, u22, u23, u24, u25, u26, u27, u28, u29, u30, u31, u32, u33, u34, u35, u36, u37, u38, u39, u40, u41, u42, u43, u44, u45, u46, u47, u48, u49, u50, u51, u52, u53, u54, u55, u56, u57, u58, x59, x60, x61, x62, x63, x64, u65, u66, u67, u68, u69, u70, u71, u72, u73, u74, u75, u76, u77, u78, u79, u80, u81, u82, u83, u84, u85, u86, u87], []⟩ wx) :
    Code.wp Tryz.prog ((Tryz.f37.body.bind (regionOf 12)).getD .skip) Q ⟨#[u0, .pointer (some ⟨xb, 0, none⟩), u2, u3, u4, u5, .pointer (some ⟨po, 0, none⟩), u7, u8, u9, u10, u11, u12, u13, u14, u15, u16, u17, u18, u19, u20, u21, u22, u23, u24, u25, u26, u27, u28, u29, u30, u31, u32, u33, u34, u35, u36, u37, u38, u39, u40, u41, u42, u43, u44, u45, u46, u47, u48, u49, u50, u51, u52, u53, u54, u55, u56, u57, u58, u59, u60, u61, u62, u63, u64, u65, u66, u67, u68, u69, u70, u71, u72, u73, u74, u75, u76, u77, u78, u79, u80, u81, u82, u83, u84, u85, u86, u87], []⟩ w5 := by
  dsimp only at hQ ⊢
  conv => arg 2; whnf
  have HQ := Lib.hid hQ
  clear hQ
  refine wp_region_inv (fun D a w => ∃ x9 x10 x59 x60 x61 x62 x63 x64 : Value, a = ⟨#[u0, .pointer (some ⟨xb, 0, none⟩), u2, u3, u4, u5, .pointer (some ⟨po, 0, none⟩), u7, u8, x9, x10, u11, u12, u13, u14, u15, u16, u17, u18, u19, u20, u21, u22, u23, u24, u25, u26, u27, u28, u29, u30, u31, u32, u33, u34, u35, u36, u37, u38, u39, u40, u41, u42, u43, u44, u45, u46, u47, u48, u49, u50, u51, u52, u53, u54, u55, u56, u57, u58, x59, x60, x61, x62, x63, x64, u65, u66, u67, u68, u69, u70, u71, u72, u73, u74, u75, u76, u77, u78, u79, u80, u81, u82, u83, u84, u85, u86, u87], []⟩ ∧ Nw w5 w ∧ (D 0 → x59 = .pointer (some ⟨p, 0, none⟩)) ∧ (D 1 → x60 = .pointer (some ⟨b, 0, none⟩)) ∧ (D 2 → x61 = .pointer (some ⟨po, 1, none⟩)) ∧ (D 3 → x62 = .int .i64 k) ∧ (D 4 → x63 = .string ⟨(Lib.decDigits k).toArray⟩) ∧ (D 5 → x64 = .string ⟨(dName k).toArray⟩) ∧ (D 6 → Bx w5 w x9 23 (D 8) (.pointer (some ⟨b, 0, none⟩))) ∧ (D 7 → Bx w5 w x10 9 (D 9) (.string ⟨(dName k).toArray⟩)) ∧ (D 6 → D 7 → x9 ≠ x10) ∧ (D 8 → D 6) ∧ (D 9 → D 7)) (by kernel_rfl) (by kernel_rfl) ?h0 (of_each ⟨?a0, ?a1, ?a2, ?a3, ?a4, ?a5, ?a6, ?a7, ?a8, ?a9, trivial⟩) ?he
  · exact ⟨u9, u10, u59, u60, u61, u62, u63, u64, rfl, (Nw.refl w5).drew, fun h => h.elim, fun h => h.elim, fun h => h.elim, fun h => h.elim, fun h => h.elim, fun h => h.elim, fun h => h.elim, fun h => h.elim, fun h => h.elim, fun h => h.elim, fun h => h.elim⟩
  · intro D hd hn a w hI K' hK
    have HK := Lib.hid hK
    clear hK
    obtain ⟨x9, x10, x59, x60, x61, x62, x63, x64, rfl, hN, f0, f1, f2, f3, f4, f5, f6, f7, f8, f9, f10⟩ := hI
    obtain ⟨a1, a2, a3, a4⟩ := HS.out _ hN
    go_wp2_with fail
    exact HK.out _ _ ⟨x9, x10, _, x60, x61, x62, x63, x64, rfl, hN, fun _ => rfl, fun h => f1 (h.old (by decide)), fun h => f2 (h.old (by decide)), fun h => f3 (h.old (by decide)), fun h => f4 (h.old (by decide)), fun h => f5 (h.old (by decide)), fun h => ((f6 (h.old (by decide))).nw (Nw.refl _)).imp fun h => h.old (by decide), fun h => ((f7 (h.old (by decide))).nw (Nw.refl _)).imp fun h => h.old (by decide), fun h h7 => f8 (h.old (by decide)) (h7.old (by decide)), fun h => .too (f9 (h.old (by decide))), fun h => .too (f10 (h.old (by decide)))⟩
  · intro D hd hn a w hI K' hK
    have HK := Lib.hid hK
    clear hK
    obtain ⟨x9, x10, x59, x60, x61, x62, x63, x64, rfl, hN, f0, f1, f2, f3, f4, f5, f6, f7, f8, f9, f10⟩ := hI
    obtain rfl := f0 (hd 0 rfl)
    go_wp2_with fail
    refine (DK.out _ hN).mono ?_
    rintro e w1 ⟨rfl, rfl⟩
    go_wp2
    exact HK.out _ _ ⟨x9, x10, _, _, x61, x62, x63, x64, rfl, hN, fun _ => rfl, fun _ => rfl, fun h => f2 (h.old (by decide)), fun h => f3 (h.old (by decide)), fun h => f4 (h.old (by decide)), fun h => f5 (h.old (by decide)), fun h => ((f6 (h.old (by decide))).nw (Nw.refl _)).imp fun h => h.old (by decide), fun h => ((f7 (h.old (by decide))).nw (Nw.refl _)).imp fun h => h.old (by decide), fun h h7 => f8 (h.old (by decide)) (h7.old (by decide)), fun h => .too (f9 (h.old (by decide))), fun h => .too (f10 (h.old (by decide)))⟩
  · intro D hd hn a w hI K' hK
    have HK := Lib.hid hK
    clear hK
    obtain ⟨x9, x10, x59, x60, x61, x62, x63, x64, rfl, hN, f0, f1, f2, f3, f4, f5, f6, f7, f8, f9, f10⟩ := hI
    obtain ⟨a1, a2, a3, a4⟩ := HS.out _ hN
    go_wp2_with fail
    exact HK.out _ _ ⟨x9, x10, x59, x60, _, x62, x63, x64, rfl, hN, fun h => f0 (h.old (by decide)), fun h => f1 (h.old (by decide)), fun _ => rfl, fun h => f3 (h.old (by decide)), fun h => f4 (h.old (by decide)), fun h => f5 (h.old (by decide)), fun h => ((f6 (h.old (by decide))).nw (Nw.refl _)).imp fun h => h.old (by decide), fun h => ((f7 (h.old (by decide))).nw (Nw.refl _)).imp fun h => h.old (by decide), fun h h7 => f8 (h.old (by decide)) (h7.old (by decide)), fun h => .too (f9 (h.old (by decide))), fun h => .too (f10 (h.old (by decide)))⟩
  · intro D hd hn a w hI K' hK
    have HK := Lib.hid hK
    clear hK
    obtain ⟨x9, x10, x59, x60, x61, x62, x63, x64, rfl, hN, f0, f1, f2, f3, f4, f5, f6, f7, f8, f9, f10⟩ := hI
    obtain ⟨a1, a2, a3, a4⟩ := HS.out _ hN
    obtain rfl := f2 (hd 2 rfl)
    go_wp2_with fail
    exact HK.out _ _ ⟨x9, x10, x59, x60, _, _, x63, x64, rfl, hN, fun h => f0 (h.old (by decide)), fun h => f1 (h.old (by decide)), fun _ => rfl, fun _ => rfl, fun h => f4 (h.old (by decide)), fun h => f5 (h.old (by decide)), fun h => ((f6 (h.old (by decide))).nw (Nw.refl _)).imp fun h => h.old (by decide), fun h => ((f7 (h.old (by decide))).nw (Nw.refl _)).imp fun h => h.old (by decide), fun h h7 => f8 (h.old (by decide)) (h7.old (by decide)), fun h => .too (f9 (h.old (by decide))), fun h => .too (f10 (h.old (by decide)))⟩
  · intro D hd hn a w hI K' hK
    have HK := Lib.hid hK
    clear hK
    obtain ⟨x9, x10, x59, x60, x61, x62, x63, x64, rfl, hN, f0, f1, f2, f3, f4, f5, f6, f7, f8, f9, f10⟩ := hI
    obtain rfl := f3 (hd 3 rfl)
    go_wp2_with fail
    refine (IT.out _ hN).mono ?_
    rintro e w1 ⟨rfl, n1⟩
    go_wp2
    exact HK.out _ _ ⟨x9, x10, x59, x60, x61, _, _, x64, rfl, (hN.trans n1), fun h => f0 (h.old (by decide)), fun h => f1 (h.old (by decide)), fun h => f2 (h.old (by decide)), fun _ => rfl, fun _ => rfl, fun h => f5 (h.old (by decide)), fun h => ((f6 (h.old (by decide))).nw n1).imp fun h => h.old (by decide), fun h => ((f7 (h.old (by decide))).nw n1).imp fun h => h.old (by decide), fun h h7 => f8 (h.old (by decide)) (h7.old (by decide)), fun h => .too (f9 (h.old (by decide))), fun h => .too (f10 (h.old (by decide)))⟩
  · intro D hd hn a w hI K' hK
    have HK := Lib.hid hK
    clear hK
    obtain ⟨x9, x10, x59, x60, x61, x62, x63, x64, rfl, hN, f0, f1, f2, f3, f4, f5, f6, f7, f8, f9, f10⟩ := hI
    obtain rfl := f4 (hd 4 rfl)
    go_wp2_with fail
    exact HK.out _ _ ⟨x9, x10, x59, x60, x61, x62, _, _, rfl, hN, fun h => f0 (h.old (by decide)), fun h => f1 (h.old (by decide)), fun h => f2 (h.old (by decide)), fun h => f3 (h.old (by decide)), fun _ => rfl, fun _ => by simp [dName, ByteArray.mk_append_mk], fun h => ((f6 (h.old (by decide))).nw (Nw.refl _)).imp fun h => h.old (by decide), fun h => ((f7 (h.old (by decide))).nw (Nw.refl _)).imp fun h => h.old (by decide), fun h h7 => f8 (h.old (by decide)) (h7.old (by decide)), fun h => .too (f9 (h.old (by decide))), fun h => .too (f10 (h.old (by decide)))⟩
  · intro D hd hn a w hI K' hK
    have HK := Lib.hid hK
    clear hK
    obtain ⟨x9, x10, x59, x60, x61, x62, x63, x64, rfl, hN, f0, f1, f2, f3, f4, f5, f6, f7, f8, f9, f10⟩ := hI
    go_wp2_with fail
    exact HK.out _ _ ⟨_, x10, x59, x60, x61, x62, x63, x64, rfl, (hN.alloc _), fun h => f0 (h.old (by decide)), fun h => f1 (h.old (by decide)), fun h => f2 (h.old (by decide)), fun h => f3 (h.old (by decide)), fun h => f4 (h.old (by decide)), fun h => f5 (h.old (by decide)), fun _ => Bx.new hN fun h => absurd (f9 (h.old (by decide))) hn, fun h => ((f7 (h.old (by decide))).nw ((Nw.refl _).alloc _)).imp fun h => h.old (by decide), fun _ h7 => Bx.apart (f7 (h7.old (by decide))), fun _ => .now, fun h => .too (f10 (h.old (by decide)))⟩
  · intro D hd hn a w hI K' hK
    have HK := Lib.hid hK
    clear hK
    obtain ⟨x9, x10, x59, x60, x61, x62, x63, x64, rfl, hN, f0, f1, f2, f3, f4, f5, f6, f7, f8, f9, f10⟩ := hI
    go_wp2_with fail
    exact HK.out _ _ ⟨x9, _, x59, x60, x61, x62, x63, x64, rfl, (hN.alloc _), fun h => f0 (h.old (by decide)), fun h => f1 (h.old (by decide)), fun h => f2 (h.old (by decide)), fun h => f3 (h.old (by decide)), fun h => f4 (h.old (by decide)), fun h => f5 (h.old (by decide)), fun h => ((f6 (h.old (by decide))).nw ((Nw.refl _).alloc _)).imp fun h => h.old (by decide), fun _ => Bx.new hN fun h => absurd (f10 (h.old (by decide))) hn, fun h6 _ => (Bx.apart (f6 (h6.old (by decide)))).symm, fun h => .too (f9 (h.old (by decide))), fun _ => .now⟩
  · intro D hd hn a w hI K' hK
    have HK := Lib.hid hK
    clear hK
    obtain ⟨x9, x10, x59, x60, x61, x62, x63, x64, rfl, hN, f0, f1, f2, f3, f4, f5, f6, f7, f8, f9, f10⟩ := hI
    have h6 := f6 (hd 6 rfl)
    obtain rfl := f1 (hd 1 rfl)
    obtain ⟨pd, u, rfl, hp1, hb, -⟩ := h6
    have c1 : w.cell? ⟨pd, 0, none⟩ = some u := by simp [World.cell?, hb]
    have c2 : w.frozen? ⟨pd, 0, none⟩ = false := by simp [World.frozen?, hb]
    have c3 := lt_of_block hb
    go_wp2_with fail
    exact HK.out _ _ ⟨_, x10, x59, _, x61, x62, x63, x64, rfl, (Only.setCell hN (fun h => absurd h (by simp only; omega)) _), fun h => f0 (h.old (by decide)), fun _ => rfl, fun h => f2 (h.old (by decide)), fun h => f3 (h.old (by decide)), fun h => f4 (h.old (by decide)), fun h => f5 (h.old (by decide)), fun _ => ⟨pd, _, rfl, hp1, heap_setCell_box_x hb, fun _ => rfl⟩, fun h => ((f7 (h.old (by decide))).oth pd _ fun hc => f8 (hd 6 rfl) (h.old (by decide)) hc.symm).imp fun h => h.old (by decide), fun h h7 => f8 (h.old (by decide)) (h7.old (by decide)), fun _ => .too (hd 6 rfl), fun h => .too (f10 (h.old (by decide)))⟩
  · intro D hd hn a w hI K' hK
    have HK := Lib.hid hK
    clear hK
    obtain ⟨x9, x10, x59, x60, x61, x62, x63, x64, rfl, hN, f0, f1, f2, f3, f4, f5, f6, f7, f8, f9, f10⟩ := hI
    have h6 := f7 (hd 7 rfl)
    obtain rfl := f5 (hd 5 rfl)
    obtain ⟨pd, u, rfl, hp1, hb, -⟩ := h6
    have c1 : w.cell? ⟨pd, 0, none⟩ = some u := by simp [World.cell?, hb]
    have c2 : w.frozen? ⟨pd, 0, none⟩ = false := by simp [World.frozen?, hb]
    have c3 := lt_of_block hb
    go_wp2_with fail
    exact HK.out _ _ ⟨x9, _, x59, x60, x61, x62, x63, _, rfl, (Only.setCell hN (fun h => absurd h (by simp only; omega)) _), fun h => f0 (h.old (by decide)), fun h => f1 (h.old (by decide)), fun h => f2 (h.old (by decide)), fun h => f3 (h.old (by decide)), fun h => f4 (h.old (by decide)), fun _ => rfl, fun h => ((f6 (h.old (by decide))).oth pd _ fun hc => f8 (h.old (by decide)) (hd 7 rfl) hc).imp fun h => h.old (by decide), fun _ => ⟨pd, _, rfl, hp1, heap_setCell_box_x hb, fun _ => rfl⟩, fun h h7 => f8 (h.old (by decide)) (h7.old (by decide)), fun h => .too (f9 (h.old (by decide))), fun _ => .too (hd 7 rfl)⟩
  · intro D a w hall hI
    obtain ⟨x9, x10, x59, x60, x61, x62, x63, x64, rfl, hN, f0, f1, f2, f3, f4, f5, f6, f7, f8, f9, f10⟩ := hI
    obtain ⟨pd, u, rfl, h1, h2, h3⟩ := f6 (hall 6 (by decide))
    obtain ⟨pn, u', rfl, h4, h5, h6⟩ := f7 (hall 7 (by decide))
    obtain rfl := h3 (hall 8 (by decide))
    obtain rfl := h6 (hall 9 (by decide))
    exact HQ.out _ _ _ _ _ _ pd pn w hN h1 h4 h2 h5
end Go.Proofs.YtjapijndljknnaaGreatDoor

/-
  A log that is over: each call tells so, and changes nothing. A log on any disk behind few frames.
-/
namespace Go.Proofs.YtjapijndljknnaaGreatDoor
open Go Go.RowKit Go.Sort
set_option maxRecDepth 100000
set_option maxHeartbeats 1600000
section
variable {X Y : Nat → Prop} {w0 w w' : World} {p b : Nat} {d d' : Dsk} {L : Lg}
theorem Bk.call {z : Int} {c : Nat} (h : HasL X w0 w p b d L) (hs : Bk z c L) (hz : in64 z) (hc : c ≤ 1000) (hl : L.l.length ≤ 1000) (ht : Tab w0) {v : Value} {es : List Ev} (hv : Evs w v es) :
    Calls Tryz.prog 31 #[.pointer (some ⟨p, 0, none⟩), v] w (DidL X w0 w p b (L.add d es).d (L.add d es).L (.int .i64 (L.add d es).e)) := by
  have h1 := hs.n
  have h2 := hs.bytes
  exact LAppend_ok h ht ⟨by omega, by omega⟩ hs.last hl (by rw [hs.size]; exact hz) hv h.pok
theorem HasL.armed (h : HasL X w0 w p b d L) (k : Int) (hk : k ≤ 9223372036854775807) : Calls Tryz.prog 47 #[.pointer (some ⟨b, 0, none⟩), .int .i64 k] w (DidL X w0 w p b (d.armed k) L (.tuple #[])) :=
  h.step fun _ _ hY => hY.arm k hk rfl
end
end Go.Proofs.YtjapijndljknnaaGreatDoor

/-
  A log on any disk behind a frame, whether it is over or not, in plain words.
-/
namespace Go.Proofs.YtjapijndljknnaaGreatDoor
open Go
theorem armed_files (d : Dsk) (n : Int) : (d.armed n).files = d.files := by
  unfold Dsk.armed
  split <;> rfl
end Go.Proofs.YtjapijndljknnaaGreatDoor

/-
  The law's map 'names': a set of names, each with the number one.
-/
namespace Go.Proofs.YtjapijndljknnaaGreatDoor
open Go Go.RowKit Go.Sort
set_option maxRecDepth 100000
set_option maxHeartbeats 800000
/-- The map holds just these names, each with 1. -/
def Names (w : World) (m : Nat) (S : List Str) : Prop := ∃ L clock, w.heap[m]? = some (.map (ents L) clock) ∧ (∀ e ∈ L, e.val = .int .i64 1) ∧ ∀ k, k ∈ L.map En.key ↔ k ∈ S
theorem Names.nw {w w' : World} {m : Nat} {S : List Str} (h : Names w m S) (hw : Nw w w') : Names w' m S := by
  obtain ⟨L, c, h1, h2⟩ := h
  exact ⟨L, c, hw.at_ h1, h2⟩
theorem names_put {w W1 : World} {m : Nat} {S : List Str} (h : Names W1 m S) (k : Str) (hw : Nw w W1) (hm : w.heap.size ≤ m) :
    ∃ W2 : World, (Instr.mapUpdate 30 (.map (some m)) (.string ⟨k.toArray⟩) (.int .i64 1)).run Tryz.prog W1 = .ok () W2 ∧ Nw w W2 ∧ Only (fun j => j = m) W1 W2 ∧ Names W2 m (k :: S) := by
  obtain ⟨L, clock, hmap, hv, hk⟩ := h
  have ht := Tryz.underlying30
  have hs := Tryz.underlying9
  rcases split_key k L with hn | ⟨A, e, B, rfl, he, hA⟩
  · refine ⟨_, run_store_miss ht hs hmap hn _, Only.setBlk hw (fun h => by omega) _, Only.setBlk (S := fun j => j = m) (Only.refl W1) (fun _ => rfl) _, _, _, setBlk_same hmap, ?_, fun x => ?_⟩
    · intro e he
      rcases List.mem_append.1 he with he | he
      · exact hv e he
      · rw [List.mem_singleton] at he; subst he; rfl
    · simp only [List.map_append, List.mem_append, hk x, List.map_cons, List.map_nil, List.mem_cons, List.not_mem_nil, or_false]
      exact or_comm
  · refine ⟨_, run_store_hit ht hs hmap he hA _, Only.setBlk hw (fun h => by omega) _, Only.setBlk (S := fun j => j = m) (Only.refl W1) (fun _ => rfl) _, _, _, setBlk_same hmap, ?_, fun x => ?_⟩
    · intro e2 he2
      rcases List.mem_append.1 he2 with h | h
      · exact hv e2 (by simp [h])
      · rcases List.mem_cons.1 h with rfl | h
        · rfl
        · exact hv e2 (by simp [h])
    · have h1 := hk x
      simp only [List.map_append, List.map_cons, List.mem_append, List.mem_cons] at h1 ⊢
      rw [he] at h1
      constructor
      · intro h2
        rcases h2 with h2 | h2 | h2
        · exact .inr (h1.1 (.inl h2))
        · exact .inl h2
        · exact .inr (h1.1 (.inr (.inr h2)))
      · rintro (h2 | h2)
        · exact .inr (.inl h2)
        · exact h1.2 h2
theorem names_get {w : World} {m : Nat} {S : List Str} (h : Names w m S) {k : Str} (hk : k ∈ S) : (Instr.lookup 30 (.map (some m)) (.string ⟨k.toArray⟩) false).run Tryz.prog w = .ok (.int .i64 1) w := by
  obtain ⟨L, clock, hmap, hv, hkk⟩ := h
  have ht := Tryz.underlying30
  have hs := Tryz.underlying9
  rcases split_key k L with hn | ⟨A, e, B, rfl, he, hA⟩
  · exact absurd ((hkk k).2 hk) hn
  · rw [run_look_hit ht hs hmap he hA, hv e (by simp)]
end Go.Proofs.YtjapijndljknnaaGreatDoor
