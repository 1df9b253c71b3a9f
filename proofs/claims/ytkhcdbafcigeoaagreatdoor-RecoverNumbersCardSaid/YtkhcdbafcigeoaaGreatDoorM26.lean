/-
  Texts merged by a program of this claim's: DocE, Box, DocF, DocG.
-/
import Derived.Test.YtkhcdbafcigeoaaGreatDoorM18
import Derived.Test.YtkhcdbafcigeoaaGreatDoorM9
import Derived.Test.YtkhcdbafcigeoaaGreatDoorM10
import Derived.Test.YtkhcdbafcigeoaaGreatDoorM17
import Derived.Test.YtkhcdbafcigeoaaGreatDoorM14
import Derived.Test.YtkhcdbafcigeoaaGreatDoorM7
import Derived.Test.YtkhcdbafcigeoaaGreatDoorM15
namespace Go.Proofs.YtkhcdbafcigeoaaGreatDoor
open Go Go.RowKit Go.Sort
set_option maxRecDepth 100000
set_option maxHeartbeats 1600000
theorem dInt_ok {w : World} {v : Value} {l : List UInt8} (hv : Bs w v l) (n : Int) (h0 : -9223372036854775808 ≤ n) (h1 : n ≤ 9223372036854775807) (hl : l.length ≤ 15000000) :
    Calls Tryz.prog 77 #[v, .int .i64 n] w (NewB w (l ++ intB n)) := by
  obtain ⟨a, c, rfl, -⟩ := hv.len
  have UI : Calls Tryz.prog 63 #[.slice a l.length c, .int .u64 (zig n)] w (NewB w (l ++ intB n)) := rUint_ok hv (zig n) (Nat.lt_of_lt_of_eq (zig_lt h0 h1) (by decide)) hl
  obtain ⟨L, hL⟩ : ∃ x, l ++ intB n = x := ⟨_, rfl⟩
  rw [hL] at UI ⊢
  clear hL hv
  by_cases hn : n < 0
  · have hz : (zig n : Int) = 2 * (-1 - n) + 1 := by unfold zig; split <;> omega
    rw [hz] at UI
    have UI := Lib.hid UI
    have e1 : IntKind.i64.wrap (-1 - n) = -1 - n := by rw [IntKind.wrap_i64]; omega
    have e2 : IntKind.u64.wrap (-1 - n) = -1 - n := by rw [IntKind.wrap_u64]; omega
    have e3 : IntKind.u64.wrap (2 * (-1 - n)) = 2 * (-1 - n) := by rw [IntKind.wrap_u64]; omega
    have e4 : IntKind.u64.wrap (2 * (-1 - n) + 1) = 2 * (-1 - n) + 1 := by rw [IntKind.wrap_u64]; omega
    have q : decide (n < 0) = true := by simp; exact hn
    clear hz hn
    go_enter Tryz.func77, Tryz.ntmps77
    go_wp2_with fail
    refine UI.out.mono ?_
    rintro e w1 ⟨v', rfl, b2, n2, f2⟩
    obtain ⟨a2, c2, rfl, -⟩ := b2.len
    have B2 := Lib.hid b2
    have N2 := Lib.hid n2
    have F2 := Lib.hid f2
    clear b2 n2 f2
    go_wp2
    go_ret
    exact ⟨_, rfl, B2.out, N2.out, F2.out⟩
  · have hz : (zig n : Int) = 2 * n := by unfold zig; split <;> omega
    rw [hz] at UI
    have UI := Lib.hid UI
    have e2 : IntKind.u64.wrap n = n := by rw [IntKind.wrap_u64]; omega
    have e3 : IntKind.u64.wrap (2 * n) = 2 * n := by rw [IntKind.wrap_u64]; omega
    have q : decide (n < 0) = false := by simp; omega
    clear hz hn
    go_enter Tryz.func77, Tryz.ntmps77
    go_wp2_with fail
    refine UI.out.mono ?_
    rintro e w1 ⟨v', rfl, b2, n2, f2⟩
    obtain ⟨a2, c2, rfl, -⟩ := b2.len
    have B2 := Lib.hid b2
    have N2 := Lib.hid n2
    have F2 := Lib.hid f2
    clear b2 n2 f2
    go_wp2
    go_ret
    exact ⟨_, rfl, B2.out, N2.out, F2.out⟩
theorem four_ok (e : Ev) (w : World) : Calls Tryz.prog 194 #[.agg #[.int .i64 e.thread, .int .u8 e.op.toNat, .int .i64 e.obj, .int .i64 e.a, .int .i64 e.b]] w fun x w' =>
    x = .returned (.agg #[.int .i64 e.thread, .int .i64 e.obj, .int .i64 e.a, .int .i64 e.b]) ∧ Nw w w' := by
  go_enter Tryz.func194, Tryz.ntmps194
  go_wp2
  refine bodyPost_ret (v := .agg #[.int .i64 e.thread, .int .i64 e.obj, .int .i64 e.a, .int .i64 e.b]) (by simp [results, Tryz.results194, go_sem]) rfl ⟨rfl, ?_⟩
  exact ((Nw.refl w).alloc _).alloc _
end Go.Proofs.YtkhcdbafcigeoaaGreatDoor

namespace Go.Proofs.YtkhcdbafcigeoaaGreatDoor
open Go Go.RowKit Go.Sort
set_option maxRecDepth 100000
def BxN (w5 w : World) (x : Value) (T : TypeId) (S : Prop) (cs : List Value) : Prop := ∃ pd us, x = .pointer (some ⟨pd, 0, none⟩) ∧ w5.heap.size ≤ pd ∧ w.heap[pd]? = some (.cells us.toArray T (0, 0)) ∧ us.length = cs.length ∧ (S → us = cs)
section
variable {w5 w w' : World} {x : Value} {cs : List Value} {T : TypeId} {S S' : Prop}
theorem BxN.nw (h : BxN w5 w x T S cs) (hw : Nw w w') : BxN w5 w' x T S cs := by
  obtain ⟨pd, us, h1, h2, h3, h4, h5⟩ := h
  exact ⟨pd, us, h1, h2, hw.at_ h3, h4, h5⟩
theorem BxN.imp (h : BxN w5 w x T S cs) (hs : S' → S) : BxN w5 w x T S' cs := by
  obtain ⟨pd, us, h1, h2, h3, h4, h5⟩ := h
  exact ⟨pd, us, h1, h2, h3, h4, fun h => h5 (hs h)⟩
theorem BxN.new (zs : List Value) (hw : Nw w5 w) (hl : zs.length = cs.length) (hs : S → False) : BxN w5 (w.alloc (.cells zs.toArray T (0, 0))) (.pointer (some ⟨w.heap.size, 0, none⟩)) T S cs := ⟨_, zs, rfl, hw.size, heap_alloc_new w _, hl, fun h => (hs h).elim⟩
theorem BxN.apart (h : BxN w5 w x T S cs) : (.pointer (some ⟨w.heap.size, 0, none⟩) : Value) ≠ x := by
  obtain ⟨pd, us, rfl, h2, h3, h4⟩ := h
  have := lt_of_block h3
  intro hc
  injection hc with hc
  injection hc with hc
  injection hc with hc
  omega
theorem heap_setCells_at {pd : Nat} : ∀ (vs pre us : List Value) (w : World), us.length = vs.length → w.heap[pd]? = some (.cells (pre ++ us).toArray T (0, 0)) → (w.setCells pd pre.length vs).heap[pd]? = some (.cells (pre ++ vs).toArray T (0, 0))
  | [], pre, us, w, hl, h => by
    obtain rfl := List.eq_nil_of_length_eq_zero hl
    exact h
  | v :: vs, pre, [], w, hl, h => by simp at hl
  | v :: vs, pre, u :: us, w, hl, h => by
    rw [World.setCells]
    have h1 := heap_setCell_at h pre.length v
    have e : ((pre ++ u :: us).toArray.setIfInBounds pre.length v) = ((pre ++ [v]) ++ us).toArray := by
      simp
    have h2 : (w.setCell ⟨pd, pre.length, none⟩ v).heap[pd]? = some (.cells ((pre ++ [v]) ++ us).toArray T (0, 0)) := by rw [← e]; exact h1
    have := heap_setCells_at vs (pre ++ [v]) us (w.setCell ⟨pd, pre.length, none⟩ v) (by simpa using hl) h2
    simpa using this
theorem BxN.put {pd : Nat} {us : List Value} (hl : us.length = cs.length) (hp : w5.heap.size ≤ pd) (h : w.heap[pd]? = some (.cells us.toArray T (0, 0))) : BxN w5 (w.setCells pd 0 cs) (.pointer (some ⟨pd, 0, none⟩)) T S cs :=
  ⟨pd, cs, rfl, hp, heap_setCells_at cs [] us w hl h, rfl, fun _ => rfl⟩
theorem BxN.oth (h : BxN w5 w x T S cs) {pd : Nat} (hw : Only (fun k => k = pd) w w') (hne : x ≠ .pointer (some ⟨pd, 0, none⟩)) : BxN w5 w' x T S cs := by
  obtain ⟨g, us, rfl, h2, h3, h4⟩ := h
  refine ⟨g, us, rfl, h2, hw.at_ h3 (fun hc => hne (by rw [hc])), h4⟩
theorem only_setCells (w : World) (pd : Nat) (vs : List Value) : Only (fun k => k = pd) w (w.setCells pd 0 vs) := Only.setCells vs 0 w (fun _ => rfl)
theorem nw_setCells (hN : Nw w5 w) {pd : Nat} (hp : w5.heap.size ≤ pd) (vs : List Value) : Nw w5 (w.setCells pd 0 vs) := hN.trans' (only_setCells w pd vs) fun k hk e => by omega
end
end Go.Proofs.YtkhcdbafcigeoaaGreatDoor

namespace Go.Proofs.YtkhcdbafcigeoaaGreatDoor
open Go Go.RowKit Go.Sort
set_option maxRecDepth 100000
theorem ev_cells {w : World} {p : Nat} {e : Ev} {T : TypeId} (h : w.heap[p]? = some (.cells (evV e).toArray T (0, 0))) : w.cell? ⟨p, 0, none⟩ = some (.int .i64 e.thread) ∧ w.cell? ⟨p, 1, none⟩ = some (.int .u8 e.op.toNat) ∧ w.cell? ⟨p, 2, none⟩ = some (.int .i64 e.obj) ∧ w.cell? ⟨p, 3, none⟩ = some (.int .i64 e.a) ∧ w.cell? ⟨p, 4, none⟩ = some (.int .i64 e.b) := by
  simp [World.cell?, h, evV]
set_option maxHeartbeats 3200000 in
theorem q4 {w5 : World} {p4 p5 : Nat} {h e : Ev} (H4 : Hid (w5.heap[p4]? = some (.cells (evV h).toArray 104 (0, 0)))) (H5 : Hid (w5.heap[p5]? = some (.cells (evV e).toArray 104 (0, 0))))
    {u0 u1 u2 u3 u6 u7 u8 u9 u10 u11 u12 u13 u14 u15 u16 u17 u18 u19 u20 u21 u22 u23 u24 u25 u26 u27 u28 u29 u30 u31 u32 u33 u34 u35 u36 u37 u38 u39 : Value} {Q : Exit → Act → World → Prop}
    (hQ : ∀ (q8 q9 : Nat) (wx : World), Nw w5 wx → w5.heap.size ≤ q8 → wx.heap[q8]? = some (.cells #[.int .i64 h.thread, .int .i64 h.obj, .int .i64 h.a, .int .i64 h.b] 215 (0, 0)) → w5.heap.size ≤ q9 → wx.heap[q9]? = some (.cells #[.int .i64 e.thread, .int .i64 e.obj, .int .i64 e.a, .int .i64 e.b] 215 (0, 0)) → q8 ≠ q9 → Q .normal ⟨#[u0, u1, u2, u3, .pointer (some ⟨p4, 0, none⟩), .pointer (some ⟨p5, 0, none⟩), u6, u7, .pointer (some ⟨q8, 0, none⟩), .pointer (some ⟨q9, 0, none⟩), u10, u11, u12, u13, u14, u15, u16, u17, u18, .agg #[.int .i64 h.thread, .int .u8 h.op.toNat, .int .i64 h.obj, .int .i64 h.a, .int .i64 h.b], .agg #[.int .i64 h.thread, .int .i64 h.obj, .int .i64 h.a, .int .i64 h.b], .agg #[.int .i64 e.thread, .int .u8 e.op.toNat, .int .i64 e.obj, .int .i64 e.a, .int .i64 e.b], .agg #[.int .i64 e.thread, .int .i64 e.obj, .int .i64 e.a, .int .i64 e.b], u23, u24, u25, u26, u27, u28, u29, u30, u31, u32, u33, u34, u35, u36, u37, u38, u39], []⟩ wx) :
    Code.wp Tryz.prog ((Tryz.f160.body.bind (regionOf 4)).getD .skip) Q ⟨#[u0, u1, u2, u3, .pointer (some ⟨p4, 0, none⟩), .pointer (some ⟨p5, 0, none⟩), u6, u7, u8, u9, u10, u11, u12, u13, u14, u15, u16, u17, u18, u19, u20, u21, u22, u23, u24, u25, u26, u27, u28, u29, u30, u31, u32, u33, u34, u35, u36, u37, u38, u39], []⟩ w5 := by
  dsimp only at hQ ⊢
  conv => arg 2; whnf
  have HQ := Lib.hid hQ
  clear hQ
  refine wp_region_inv (fun D a w => ∃ x8 x9 x19 x20 x21 x22 : Value, a = ⟨#[u0, u1, u2, u3, .pointer (some ⟨p4, 0, none⟩), .pointer (some ⟨p5, 0, none⟩), u6, u7, x8, x9, u10, u11, u12, u13, u14, u15, u16, u17, u18, x19, x20, x21, x22, u23, u24, u25, u26, u27, u28, u29, u30, u31, u32, u33, u34, u35, u36, u37, u38, u39], []⟩ ∧ Nw w5 w ∧ (D 0 → x19 = .agg #[.int .i64 h.thread, .int .u8 h.op.toNat, .int .i64 h.obj, .int .i64 h.a, .int .i64 h.b]) ∧ (D 1 → x20 = .agg #[.int .i64 h.thread, .int .i64 h.obj, .int .i64 h.a, .int .i64 h.b]) ∧ (D 2 → x21 = .agg #[.int .i64 e.thread, .int .u8 e.op.toNat, .int .i64 e.obj, .int .i64 e.a, .int .i64 e.b]) ∧ (D 3 → x22 = .agg #[.int .i64 e.thread, .int .i64 e.obj, .int .i64 e.a, .int .i64 e.b]) ∧ (D 4 → BxN w5 w x8 215 (D 6) [.int .i64 h.thread, .int .i64 h.obj, .int .i64 h.a, .int .i64 h.b]) ∧ (D 5 → BxN w5 w x9 215 (D 7) [.int .i64 e.thread, .int .i64 e.obj, .int .i64 e.a, .int .i64 e.b]) ∧ (D 6 → D 4) ∧ (D 7 → D 5) ∧ (D 4 → D 5 → x8 ≠ x9)) (by kernel_rfl) (by kernel_rfl) ?h0 (of_each ⟨?a0, ?a1, ?a2, ?a3, ?a4, ?a5, ?a6, ?a7, trivial⟩) ?he
  · exact ⟨u8, u9, u19, u20, u21, u22, rfl, (Nw.refl w5).drew, fun i_ => i_.elim, fun i_ => i_.elim, fun i_ => i_.elim, fun i_ => i_.elim, fun i_ => i_.elim, fun i_ => i_.elim, fun i_ => i_.elim, fun i_ => i_.elim, fun i_ => i_.elim⟩
  · intro D hd hn a w hI K' hK
    have HK := Lib.hid hK
    clear hK
    obtain ⟨x8, x9, x19, x20, x21, x22, rfl, hN, f0, f1, f2, f3, f4, f5, f6, f7, f8⟩ := hI
    obtain ⟨a0, a1, a2, a3, a4⟩ := ev_cells (hN.at_ H4.out)
    go_wp2_with fail
    exact HK.out _ _ ⟨x8, x9, _, x20, x21, x22, rfl, hN, fun _ => rfl, fun i_ => f1 (i_.old (by decide)), fun i_ => f2 (i_.old (by decide)), fun i_ => f3 (i_.old (by decide)), fun i_ => ((f4 (i_.old (by decide))).nw (Nw.refl _)).imp fun i_ => i_.old (by decide), fun i_ => ((f5 (i_.old (by decide))).nw (Nw.refl _)).imp fun i_ => i_.old (by decide), fun i_ => .too (f6 (i_.old (by decide))), fun i_ => .too (f7 (i_.old (by decide))), fun i_ j_ => f8 (i_.old (by decide)) (j_.old (by decide))⟩
  · intro D hd hn a w hI K' hK
    have HK := Lib.hid hK
    clear hK
    obtain ⟨x8, x9, x19, x20, x21, x22, rfl, hN, f0, f1, f2, f3, f4, f5, f6, f7, f8⟩ := hI
    obtain rfl := f0 (hd 0 rfl)
    go_wp2_with fail
    refine (four_ok h w).mono ?_
    rintro e w1 ⟨rfl, n1⟩
    go_wp2
    exact HK.out _ _ ⟨x8, x9, _, _, x21, x22, rfl, (hN.trans n1), fun _ => rfl, fun _ => rfl, fun i_ => f2 (i_.old (by decide)), fun i_ => f3 (i_.old (by decide)), fun i_ => ((f4 (i_.old (by decide))).nw n1).imp fun i_ => i_.old (by decide), fun i_ => ((f5 (i_.old (by decide))).nw n1).imp fun i_ => i_.old (by decide), fun i_ => .too (f6 (i_.old (by decide))), fun i_ => .too (f7 (i_.old (by decide))), fun i_ j_ => f8 (i_.old (by decide)) (j_.old (by decide))⟩
  · intro D hd hn a w hI K' hK
    have HK := Lib.hid hK
    clear hK
    obtain ⟨x8, x9, x19, x20, x21, x22, rfl, hN, f0, f1, f2, f3, f4, f5, f6, f7, f8⟩ := hI
    obtain ⟨a0, a1, a2, a3, a4⟩ := ev_cells (hN.at_ H5.out)
    go_wp2_with fail
    exact HK.out _ _ ⟨x8, x9, x19, x20, _, x22, rfl, hN, fun i_ => f0 (i_.old (by decide)), fun i_ => f1 (i_.old (by decide)), fun _ => rfl, fun i_ => f3 (i_.old (by decide)), fun i_ => ((f4 (i_.old (by decide))).nw (Nw.refl _)).imp fun i_ => i_.old (by decide), fun i_ => ((f5 (i_.old (by decide))).nw (Nw.refl _)).imp fun i_ => i_.old (by decide), fun i_ => .too (f6 (i_.old (by decide))), fun i_ => .too (f7 (i_.old (by decide))), fun i_ j_ => f8 (i_.old (by decide)) (j_.old (by decide))⟩
  · intro D hd hn a w hI K' hK
    have HK := Lib.hid hK
    clear hK
    obtain ⟨x8, x9, x19, x20, x21, x22, rfl, hN, f0, f1, f2, f3, f4, f5, f6, f7, f8⟩ := hI
    obtain rfl := f2 (hd 2 rfl)
    go_wp2_with fail
    refine (four_ok e w).mono ?_
    rintro e w1 ⟨rfl, n1⟩
    go_wp2
    exact HK.out _ _ ⟨x8, x9, x19, x20, _, _, rfl, (hN.trans n1), fun i_ => f0 (i_.old (by decide)), fun i_ => f1 (i_.old (by decide)), fun _ => rfl, fun _ => rfl, fun i_ => ((f4 (i_.old (by decide))).nw n1).imp fun i_ => i_.old (by decide), fun i_ => ((f5 (i_.old (by decide))).nw n1).imp fun i_ => i_.old (by decide), fun i_ => .too (f6 (i_.old (by decide))), fun i_ => .too (f7 (i_.old (by decide))), fun i_ j_ => f8 (i_.old (by decide)) (j_.old (by decide))⟩
  · intro D hd hn a w hI K' hK
    have HK := Lib.hid hK
    clear hK
    obtain ⟨x8, x9, x19, x20, x21, x22, rfl, hN, f0, f1, f2, f3, f4, f5, f6, f7, f8⟩ := hI
    go_wp2_with fail
    exact HK.out _ _ ⟨_, x9, x19, x20, x21, x22, rfl, (hN.alloc _), fun i_ => f0 (i_.old (by decide)), fun i_ => f1 (i_.old (by decide)), fun i_ => f2 (i_.old (by decide)), fun i_ => f3 (i_.old (by decide)), fun _ => BxN.new [.int .i64 0, .int .i64 0, .int .i64 0, .int .i64 0] hN rfl (fun i_ => absurd (f6 (i_.old (by decide))) hn), fun i_ => ((f5 (i_.old (by decide))).nw ((Nw.refl _).alloc _)).imp fun i_ => i_.old (by decide), fun _ => .now, fun i_ => .too (f7 (i_.old (by decide))), fun _ j_ => (f5 (j_.old (by decide))).apart⟩
  · intro D hd hn a w hI K' hK
    have HK := Lib.hid hK
    clear hK
    obtain ⟨x8, x9, x19, x20, x21, x22, rfl, hN, f0, f1, f2, f3, f4, f5, f6, f7, f8⟩ := hI
    go_wp2_with fail
    exact HK.out _ _ ⟨x8, _, x19, x20, x21, x22, rfl, (hN.alloc _), fun i_ => f0 (i_.old (by decide)), fun i_ => f1 (i_.old (by decide)), fun i_ => f2 (i_.old (by decide)), fun i_ => f3 (i_.old (by decide)), fun i_ => ((f4 (i_.old (by decide))).nw ((Nw.refl _).alloc _)).imp fun i_ => i_.old (by decide), fun _ => BxN.new [.int .i64 0, .int .i64 0, .int .i64 0, .int .i64 0] hN rfl (fun i_ => absurd (f7 (i_.old (by decide))) hn), fun i_ => .too (f6 (i_.old (by decide))), fun _ => .now, fun i_ _ => ((f4 (i_.old (by decide))).apart).symm⟩
  · intro D hd hn a w hI K' hK
    have HK := Lib.hid hK
    clear hK
    obtain ⟨x8, x9, x19, x20, x21, x22, rfl, hN, f0, f1, f2, f3, f4, f5, f6, f7, f8⟩ := hI
    have hb := f4 (hd 4 rfl)
    obtain rfl := f1 (hd 1 rfl)
    obtain ⟨pd, us, rfl, hp, hb, hl, -⟩ := hb
    obtain ⟨z0, z1, z2, z3, rfl⟩ : ∃ z0 z1 z2 z3 : Value, us = [z0, z1, z2, z3] := by
      match us, hl with
      | [z0, z1, z2, z3], _ => exact ⟨_, _, _, _, rfl⟩
    have c0 : w.cell? ⟨pd, 0, none⟩ = some z0 := by simp [World.cell?, hb]
    have d0 : w.frozen? ⟨pd, 0, none⟩ = false := by simp [World.frozen?, hb]
    have c1 : w.cell? ⟨pd, 1, none⟩ = some z1 := by simp [World.cell?, hb]
    have d1 : w.frozen? ⟨pd, 1, none⟩ = false := by simp [World.frozen?, hb]
    have c2 : w.cell? ⟨pd, 2, none⟩ = some z2 := by simp [World.cell?, hb]
    have d2 : w.frozen? ⟨pd, 2, none⟩ = false := by simp [World.frozen?, hb]
    have c3 : w.cell? ⟨pd, 3, none⟩ = some z3 := by simp [World.cell?, hb]
    have d3 : w.frozen? ⟨pd, 3, none⟩ = false := by simp [World.frozen?, hb]
    have hlt := lt_of_block hb
    have HB := Lib.hid hb
    clear hb
    go_wp2_with fail
    have hsc : w.setCells pd 0 [.int .i64 h.thread, .int .i64 h.obj, .int .i64 h.a, .int .i64 h.b] = (World.setCell (World.setCell (World.setCell (World.setCell w ⟨pd, 0, none⟩ (.int .i64 h.thread)) ⟨pd, 1, none⟩ (.int .i64 h.obj)) ⟨pd, 2, none⟩ (.int .i64 h.a)) ⟨pd, 3, none⟩ (.int .i64 h.b)) := by simp only [World.setCells, Nat.zero_add, Nat.reduceAdd]
    rw [← hsc]
    exact HK.out _ _ ⟨_, x9, x19, _, x21, x22, rfl, (nw_setCells hN hp [.int .i64 h.thread, .int .i64 h.obj, .int .i64 h.a, .int .i64 h.b]), fun i_ => f0 (i_.old (by decide)), fun _ => rfl, fun i_ => f2 (i_.old (by decide)), fun i_ => f3 (i_.old (by decide)), fun _ => BxN.put (us := [z0, z1, z2, z3]) rfl hp HB.out, fun i_ => ((f5 (i_.old (by decide))).oth (only_setCells w pd [.int .i64 h.thread, .int .i64 h.obj, .int .i64 h.a, .int .i64 h.b]) ((f8 (hd 4 rfl) (i_.old (by decide))).symm)).imp fun i_ => i_.old (by decide), fun _ => .too (hd 4 rfl), fun i_ => .too (f7 (i_.old (by decide))), fun i_ j_ => f8 (i_.old (by decide)) (j_.old (by decide))⟩
  · intro D hd hn a w hI K' hK
    have HK := Lib.hid hK
    clear hK
    obtain ⟨x8, x9, x19, x20, x21, x22, rfl, hN, f0, f1, f2, f3, f4, f5, f6, f7, f8⟩ := hI
    have hb := f5 (hd 5 rfl)
    obtain rfl := f3 (hd 3 rfl)
    obtain ⟨pd, us, rfl, hp, hb, hl, -⟩ := hb
    obtain ⟨z0, z1, z2, z3, rfl⟩ : ∃ z0 z1 z2 z3 : Value, us = [z0, z1, z2, z3] := by
      match us, hl with
      | [z0, z1, z2, z3], _ => exact ⟨_, _, _, _, rfl⟩
    have c0 : w.cell? ⟨pd, 0, none⟩ = some z0 := by simp [World.cell?, hb]
    have d0 : w.frozen? ⟨pd, 0, none⟩ = false := by simp [World.frozen?, hb]
    have c1 : w.cell? ⟨pd, 1, none⟩ = some z1 := by simp [World.cell?, hb]
    have d1 : w.frozen? ⟨pd, 1, none⟩ = false := by simp [World.frozen?, hb]
    have c2 : w.cell? ⟨pd, 2, none⟩ = some z2 := by simp [World.cell?, hb]
    have d2 : w.frozen? ⟨pd, 2, none⟩ = false := by simp [World.frozen?, hb]
    have c3 : w.cell? ⟨pd, 3, none⟩ = some z3 := by simp [World.cell?, hb]
    have d3 : w.frozen? ⟨pd, 3, none⟩ = false := by simp [World.frozen?, hb]
    have hlt := lt_of_block hb
    have HB := Lib.hid hb
    clear hb
    go_wp2_with fail
    have hsc : w.setCells pd 0 [.int .i64 e.thread, .int .i64 e.obj, .int .i64 e.a, .int .i64 e.b] = (World.setCell (World.setCell (World.setCell (World.setCell w ⟨pd, 0, none⟩ (.int .i64 e.thread)) ⟨pd, 1, none⟩ (.int .i64 e.obj)) ⟨pd, 2, none⟩ (.int .i64 e.a)) ⟨pd, 3, none⟩ (.int .i64 e.b)) := by simp only [World.setCells, Nat.zero_add, Nat.reduceAdd]
    rw [← hsc]
    exact HK.out _ _ ⟨x8, _, x19, x20, x21, _, rfl, (nw_setCells hN hp [.int .i64 e.thread, .int .i64 e.obj, .int .i64 e.a, .int .i64 e.b]), fun i_ => f0 (i_.old (by decide)), fun i_ => f1 (i_.old (by decide)), fun i_ => f2 (i_.old (by decide)), fun _ => rfl, fun i_ => ((f4 (i_.old (by decide))).oth (only_setCells w pd [.int .i64 e.thread, .int .i64 e.obj, .int .i64 e.a, .int .i64 e.b]) (f8 (i_.old (by decide)) (hd 5 rfl))).imp fun i_ => i_.old (by decide), fun _ => BxN.put (us := [z0, z1, z2, z3]) rfl hp HB.out, fun i_ => .too (f6 (i_.old (by decide))), fun _ => .too (hd 5 rfl), fun i_ j_ => f8 (i_.old (by decide)) (j_.old (by decide))⟩
  · intro D a w hall hI
    obtain ⟨x8, x9, x19, x20, x21, x22, rfl, hN, f0, f1, f2, f3, f4, f5, f6, f7, f8⟩ := hI
    obtain rfl := f0 (hall 0 (by decide))
    obtain rfl := f1 (hall 1 (by decide))
    obtain rfl := f2 (hall 2 (by decide))
    obtain rfl := f3 (hall 3 (by decide))
    have ne8_9 := f8 (hall 4 (by decide)) (hall 5 (by decide))
    obtain ⟨q8, us8, rfl, a8, b8, -, c8⟩ := f4 (hall 4 (by decide))
    obtain rfl := c8 (hall 6 (by decide))
    obtain ⟨q9, us9, rfl, a9, b9, -, c9⟩ := f5 (hall 5 (by decide))
    obtain rfl := c9 (hall 7 (by decide))
    exact HQ.out q8 q9 w hN a8 b8 a9 b9 (fun e => ne8_9 (by rw [e]))
end Go.Proofs.YtkhcdbafcigeoaaGreatDoor

namespace Go.Proofs.YtkhcdbafcigeoaaGreatDoor
open Go Go.RowKit Go.Sort
set_option maxRecDepth 100000
set_option maxHeartbeats 3200000

theorem sub_u64 {a b : Int} (ha : in64 a) (hb : in64 b) : IntKind.i64.wrap (IntKind.u64.wrap (IntKind.u64.wrap b - IntKind.u64.wrap a)) = w64 (b - a) := by
  unfold in64 at ha hb
  simp only [IntKind.wrap_i64, IntKind.wrap_u64, w64]
  omega

theorem q8 {wc : World} {p8 p9 k vc : Nat} {va : Option Addr} {l : List UInt8} {a b : Int} (hk : k < 4) (HV : Hid (Bs wc (.slice va l.length vc) l)) (hl : l.length ≤ 15000000) (ha : in64 a) (hb : in64 b) (C9 : Hid (wc.cell? ⟨p9, k, none⟩ = some (.int .i64 b))) (C8 : Hid (wc.cell? ⟨p8, k, none⟩ = some (.int .i64 a)))  {u0 u1 u2 u3 u4 u5 u6 u11 u12 u13 u14 u15 u16 u17 u18 u19 u20 u21 u22 u23 u24 u25 u26 u27 u28 u29 u30 u31 u32 u33 u34 u35 u36 u37 u38 u39 : Value} {Q : Exit → Act → World → Prop} (hP : PanicOk Q)
    (hQ : ∀ (s27 s28 s29 s30 s31 s32 s33 s34 s35 s36 s37 s38 : Value) (a2 : Option Addr) (n2 c2 : Nat) (wx : World), (l ++ intB (w64 (b - a))).length = n2 → Vec 1 wx (.slice a2 n2 c2) n2 ((l ++ intB (w64 (b - a))).map u8) → Nw wc wx → (∀ g, (Value.slice a2 n2 c2).ownBlock = some g → wc.heap.size ≤ g) → Q .normal ⟨#[u0, u1, u2, u3, u4, u5, u6, .slice a2 n2 c2, .pointer (some ⟨p8, 0, none⟩), .pointer (some ⟨p9, 0, none⟩), .int .i64 k, u11, u12, u13, u14, u15, u16, u17, u18, u19, u20, u21, u22, u23, u24, u25, u26, s27, s28, s29, s30, s31, s32, s33, s34, s35, s36, s37, s38, u39], []⟩ wx) :
    Code.wp Tryz.prog ((Tryz.f160.body.bind (regionOf 8)).getD .skip) Q ⟨#[u0, u1, u2, u3, u4, u5, u6, .slice va l.length vc, .pointer (some ⟨p8, 0, none⟩), .pointer (some ⟨p9, 0, none⟩), .int .i64 k, u11, u12, u13, u14, u15, u16, u17, u18, u19, u20, u21, u22, u23, u24, u25, u26, u27, u28, u29, u30, u31, u32, u33, u34, u35, u36, u37, u38, u39], []⟩ wc := by
  have _hP := hP
  dsimp only at hQ ⊢
  conv => arg 2; whnf
  have HQ := Lib.hid hQ
  clear hQ
  have hk0 : (0 : Int) ≤ (k : Int) := by omega
  have hk1 : (k : Int) < 4 := by omega
  have SU := sub_u64 ha hb
  have HI := Lib.hid (dInt_ok (HV.out.nw ((Nw.refl wc).drew)) (w64 (b - a)) (w64_in (b - a)).1 (w64_in (b - a)).2 hl)
  refine wp_region_steps 12 [.rd 0, .rd 1, .rd 2, .rd 3, .rd 4, .rd 5, .rd 6, .rd 7, .rd 8, .rd 9, .rd 10, .dn 11] [12] (fun x => x.cell? ⟨p9, k, none⟩ = some (.int .i64 b) ∧ x.cell? ⟨p8, k, none⟩ = some (.int .i64 a)) (by kernel_rfl) (by kernel_rfl) hP ⟨C9.out, C8.out⟩ ?_
  refine stp_to (.slice va l.length vc) rfl rfl rfl (fun x hx => by go_simp) (fun K hK => ?_); go_simp; refine hK _ ?_; clear hK K
  refine stp_to (.int .i64 k) rfl rfl rfl (fun x hx => by go_simp) (fun K hK => ?_); go_simp; refine hK _ ?_; clear hK K
  refine stp_to (.pointer (some ⟨p9, k, none⟩)) rfl rfl rfl (fun x hx => by go_simp) (fun K hK => ?_); go_simp; refine hK _ ?_; clear hK K
  refine stp_to (.int .i64 b) rfl rfl rfl (fun x hx => by obtain ⟨e1, e2⟩ := hx; go_simp) (fun K hK => ?_); go_simp; refine hK _ ?_; clear hK K
  refine stp_to (.int .u64 (IntKind.u64.wrap b)) rfl rfl rfl (fun x hx => by go_simp) (fun K hK => ?_); go_simp; refine hK _ ?_; clear hK K
  refine stp_to (.int .i64 k) rfl rfl rfl (fun x hx => by go_simp) (fun K hK => ?_); go_simp; refine hK _ ?_; clear hK K
  refine stp_to (.pointer (some ⟨p8, k, none⟩)) rfl rfl rfl (fun x hx => by go_simp) (fun K hK => ?_); go_simp; refine hK _ ?_; clear hK K
  refine stp_to (.int .i64 a) rfl rfl rfl (fun x hx => by obtain ⟨e1, e2⟩ := hx; go_simp) (fun K hK => ?_); go_simp; refine hK _ ?_; clear hK K
  refine stp_to (.int .u64 (IntKind.u64.wrap a)) rfl rfl rfl (fun x hx => by go_simp) (fun K hK => ?_); go_simp; refine hK _ ?_; clear hK K
  refine stp_to (.int .u64 (IntKind.u64.wrap (IntKind.u64.wrap b - IntKind.u64.wrap a))) rfl rfl rfl (fun x hx => by go_simp) (fun K hK => ?_); go_simp; refine hK _ ?_; clear hK K
  refine stp_to (.int .i64 (w64 (b - a))) rfl rfl rfl (fun x hx => by go_simp) (fun K hK => ?_); go_simp; refine hK _ ?_; clear hK K
  refine stp_dn rfl (fun K hK => ?_)
  go_wp2_with fail
  refine HI.out.mono ?_
  rintro e w1 ⟨v', rfl, b2, n2, f2⟩
  obtain ⟨a2, c2, rfl, -⟩ := b2.len
  obtain ⟨n', hn'⟩ : ∃ x, (l ++ intB (w64 (b - a))).length = x := ⟨_, rfl⟩
  rw [hn'] at b2 f2 ⊢
  have B2 := Lib.hid b2
  have N2 := Lib.hid (((Nw.refl wc).drew).trans n2)
  have F2 := Lib.hid f2
  have HN' := Lib.hid hn'
  clear b2 n2 f2 hn'
  go_wp2
  refine hK _ _ ⟨N2.out.cell C9.out, N2.out.cell C8.out⟩ ?_; clear hK K
  refine wpSteps_nil ?_
  refine stp_do rfl (by decide) (fun K hK => ?_)
  go_wp2
  (try (refine hK _ _ ?_; clear hK K))
  refine wpNums_nil ?_
  exact HQ.out _ _ _ _ _ _ _ _ _ _ _ _  a2 n' c2 w1 HN'.out B2.out N2.out F2.out

end Go.Proofs.YtkhcdbafcigeoaaGreatDoor
