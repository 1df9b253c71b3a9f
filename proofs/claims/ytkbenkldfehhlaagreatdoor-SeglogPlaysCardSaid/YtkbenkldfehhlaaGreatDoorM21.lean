/-
  Texts merged by a program of this claim's: DocF, DocG, DocH, Ref05A.
-/
import Derived.Test.YtkbenkldfehhlaaGreatDoorM20
import Derived.Test.YtkbenkldfehhlaaGreatDoorM7
import Derived.Test.YtkbenkldfehhlaaGreatDoorM12
import Derived.Deep.DeepCutAuto
namespace Go.Proofs.YtkbenkldfehhlaaGreatDoor
open Go Go.RowKit Go.Sort
set_option maxRecDepth 100000
theorem ev_cells {w : World} {p : Nat} {e : Ev} {T : TypeId} (h : w.heap[p]? = some (.cells (evV e).toArray T (0, 0))) : w.cell? ⟨p, 0, none⟩ = some (.int .i64 e.thread) ∧ w.cell? ⟨p, 1, none⟩ = some (.int .u8 e.op.toNat) ∧ w.cell? ⟨p, 2, none⟩ = some (.int .i64 e.obj) ∧ w.cell? ⟨p, 3, none⟩ = some (.int .i64 e.a) ∧ w.cell? ⟨p, 4, none⟩ = some (.int .i64 e.b) := by
  simp [World.cell?, h, evV]
set_option maxHeartbeats 3200000 in
theorem q4 {w5 : World} {p4 p5 : Nat} {h e : Ev} (H4 : Hid (w5.heap[p4]? = some (.cells (evV h).toArray 87 (0, 0)))) (H5 : Hid (w5.heap[p5]? = some (.cells (evV e).toArray 87 (0, 0))))
    {u0 u1 u2 u3 u6 u7 u8 u9 u10 u11 u12 u13 u14 u15 u16 u17 u18 u19 u20 u21 u22 u23 u24 u25 u26 u27 u28 u29 u30 u31 u32 u33 u34 u35 u36 u37 u38 u39 : Value} {Q : Exit → Act → World → Prop}
    (hQ : ∀ (q8 q9 : Nat) (wx : World), Nw w5 wx → w5.heap.size ≤ q8 → wx.heap[q8]? = some (.cells #[.int .i64 h.thread, .int .i64 h.obj, .int .i64 h.a, .int .i64 h.b] 188 (0, 0)) → w5.heap.size ≤ q9 → wx.heap[q9]? = some (.cells #[.int .i64 e.thread, .int .i64 e.obj, .int .i64 e.a, .int .i64 e.b] 188 (0, 0)) → q8 ≠ q9 → Q .normal ⟨#[u0, u1, u2, u3, .pointer (some ⟨p4, 0, none⟩), .pointer (some ⟨p5, 0, none⟩), u6, u7, .pointer (some ⟨q8, 0, none⟩), .pointer (some ⟨q9, 0, none⟩), u10, u11, u12, u13, u14, u15, u16, u17, u18, .agg #[.int .i64 h.thread, .int .u8 h.op.toNat, .int .i64 h.obj, .int .i64 h.a, .int .i64 h.b], .agg #[.int .i64 h.thread, .int .i64 h.obj, .int .i64 h.a, .int .i64 h.b], .agg #[.int .i64 e.thread, .int .u8 e.op.toNat, .int .i64 e.obj, .int .i64 e.a, .int .i64 e.b], .agg #[.int .i64 e.thread, .int .i64 e.obj, .int .i64 e.a, .int .i64 e.b], u23, u24, u25, u26, u27, u28, u29, u30, u31, u32, u33, u34, u35, u36, u37, u38, u39], []⟩ wx) :
    Code.wp Tryz.prog ((Tryz.f130.body.bind (regionOf 4)).getD .skip) Q ⟨#[u0, u1, u2, u3, .pointer (some ⟨p4, 0, none⟩), .pointer (some ⟨p5, 0, none⟩), u6, u7, u8, u9, u10, u11, u12, u13, u14, u15, u16, u17, u18, u19, u20, u21, u22, u23, u24, u25, u26, u27, u28, u29, u30, u31, u32, u33, u34, u35, u36, u37, u38, u39], []⟩ w5 := by
  dsimp only at hQ ⊢
  conv => arg 2; whnf
  have HQ := Lib.hid hQ
  clear hQ
  refine wp_region_inv (fun D a w => ∃ x8 x9 x19 x20 x21 x22 : Value, a = ⟨#[u0, u1, u2, u3, .pointer (some ⟨p4, 0, none⟩), .pointer (some ⟨p5, 0, none⟩), u6, u7, x8, x9, u10, u11, u12, u13, u14, u15, u16, u17, u18, x19, x20, x21, x22, u23, u24, u25, u26, u27, u28, u29, u30, u31, u32, u33, u34, u35, u36, u37, u38, u39], []⟩ ∧ Nw w5 w ∧ (D 0 → x19 = .agg #[.int .i64 h.thread, .int .u8 h.op.toNat, .int .i64 h.obj, .int .i64 h.a, .int .i64 h.b]) ∧ (D 1 → x20 = .agg #[.int .i64 h.thread, .int .i64 h.obj, .int .i64 h.a, .int .i64 h.b]) ∧ (D 2 → x21 = .agg #[.int .i64 e.thread, .int .u8 e.op.toNat, .int .i64 e.obj, .int .i64 e.a, .int .i64 e.b]) ∧ (D 3 → x22 = .agg #[.int .i64 e.thread, .int .i64 e.obj, .int .i64 e.a, .int .i64 e.b]) ∧ (D 4 → BxN w5 w x8 188 (D 6) [.int .i64 h.thread, .int .i64 h.obj, .int .i64 h.a, .int .i64 h.b]) ∧ (D 5 → BxN w5 w x9 188 (D 7) [.int .i64 e.thread, .int .i64 e.obj, .int .i64 e.a, .int .i64 e.b]) ∧ (D 6 → D 4) ∧ (D 7 → D 5) ∧ (D 4 → D 5 → x8 ≠ x9)) (by kernel_rfl) (by kernel_rfl) ?h0 (of_each ⟨?a0, ?a1, ?a2, ?a3, ?a4, ?a5, ?a6, ?a7, trivial⟩) ?he
  · exact ⟨u8, u9, u19, u20, u21, u22, rfl, (Nw.refl w5).drew, fun i_ => i_.elim, fun i_ => i_.elim, fun i_ => i_.elim, fun i_ => i_.elim, fun i_ => i_.elim, fun i_ => i_.elim, fun i_ => i_.elim, fun i_ => i_.elim, fun i_ => i_.elim⟩
  · intro D hd hn a w hI K' hK
    have HK := Lib.hid hK
    clear hK
    obtain ⟨x8, x9, x19, x20, x21, x22, rfl, hN, f0, f1, f2, f3, f4, f5, f6, f7, f8⟩ := hI
    obtain ⟨a0, a1, a2, a3, a4⟩ := ev_cells (hN.at_ H4.out)
    go_wp2_with fail
    exact HK.out _ _ ⟨x8, x9, _, x20, x21, x22, rfl, hN, fun _ => rfl, fun i_ => f1 (i_.old (by decide)), fun i_ => f2 (i_.old (by decide)), fun i_ => f3 (i_.old (by decide)), fun i_ => ((f4 (i_.old (by decide))).nw (Nw.refl _)).imp fun i_ => i_.old (by decide), fun i_ => ((f5 (i_.old (by decide))).nw (Nw.refl _)).imp fun i_ => i_.old (by decide), fun i_ => .too (f6 (i_.old (by decide))), fun i_ => .too (f7 (i_.old (by decide))), fun i_ j_ => f8 (i_.old (by decide)) (j_.old (by decide))⟩
  · intro D hd hn a w hI K' hK
    have HK := Lib.hid hK
    clear hK
    obtain ⟨x8, x9, x19, x20, x21, x22, rfl, hN, f0, f1, f2, f3, f4, f5, f6, f7, f8⟩ := hI
    obtain rfl := f0 (hd 0 rfl)
    go_wp2_with fail
    refine (four_ok h w).mono ?_
    rintro e w1 ⟨rfl, n1⟩
    go_wp2
    exact HK.out _ _ ⟨x8, x9, _, _, x21, x22, rfl, (hN.trans n1), fun _ => rfl, fun _ => rfl, fun i_ => f2 (i_.old (by decide)), fun i_ => f3 (i_.old (by decide)), fun i_ => ((f4 (i_.old (by decide))).nw n1).imp fun i_ => i_.old (by decide), fun i_ => ((f5 (i_.old (by decide))).nw n1).imp fun i_ => i_.old (by decide), fun i_ => .too (f6 (i_.old (by decide))), fun i_ => .too (f7 (i_.old (by decide))), fun i_ j_ => f8 (i_.old (by decide)) (j_.old (by decide))⟩
  · intro D hd hn a w hI K' hK
    have HK := Lib.hid hK
    clear hK
    obtain ⟨x8, x9, x19, x20, x21, x22, rfl, hN, f0, f1, f2, f3, f4, f5, f6, f7, f8⟩ := hI
    obtain ⟨a0, a1, a2, a3, a4⟩ := ev_cells (hN.at_ H5.out)
    go_wp2_with fail
    exact HK.out _ _ ⟨x8, x9, x19, x20, _, x22, rfl, hN, fun i_ => f0 (i_.old (by decide)), fun i_ => f1 (i_.old (by decide)), fun _ => rfl, fun i_ => f3 (i_.old (by decide)), fun i_ => ((f4 (i_.old (by decide))).nw (Nw.refl _)).imp fun i_ => i_.old (by decide), fun i_ => ((f5 (i_.old (by decide))).nw (Nw.refl _)).imp fun i_ => i_.old (by decide), fun i_ => .too (f6 (i_.old (by decide))), fun i_ => .too (f7 (i_.old (by decide))), fun i_ j_ => f8 (i_.old (by decide)) (j_.old (by decide))⟩
  · intro D hd hn a w hI K' hK
    have HK := Lib.hid hK
    clear hK
    obtain ⟨x8, x9, x19, x20, x21, x22, rfl, hN, f0, f1, f2, f3, f4, f5, f6, f7, f8⟩ := hI
    obtain rfl := f2 (hd 2 rfl)
    go_wp2_with fail
    refine (four_ok e w).mono ?_
    rintro e w1 ⟨rfl, n1⟩
    go_wp2
    exact HK.out _ _ ⟨x8, x9, x19, x20, _, _, rfl, (hN.trans n1), fun i_ => f0 (i_.old (by decide)), fun i_ => f1 (i_.old (by decide)), fun _ => rfl, fun _ => rfl, fun i_ => ((f4 (i_.old (by decide))).nw n1).imp fun i_ => i_.old (by decide), fun i_ => ((f5 (i_.old (by decide))).nw n1).imp fun i_ => i_.old (by decide), fun i_ => .too (f6 (i_.old (by decide))), fun i_ => .too (f7 (i_.old (by decide))), fun i_ j_ => f8 (i_.old (by decide)) (j_.old (by decide))⟩
  · intro D hd hn a w hI K' hK
    have HK := Lib.hid hK
    clear hK
    obtain ⟨x8, x9, x19, x20, x21, x22, rfl, hN, f0, f1, f2, f3, f4, f5, f6, f7, f8⟩ := hI
    go_wp2_with fail
    exact HK.out _ _ ⟨_, x9, x19, x20, x21, x22, rfl, (hN.alloc _), fun i_ => f0 (i_.old (by decide)), fun i_ => f1 (i_.old (by decide)), fun i_ => f2 (i_.old (by decide)), fun i_ => f3 (i_.old (by decide)), fun _ => BxN.new [.int .i64 0, .int .i64 0, .int .i64 0, .int .i64 0] hN rfl (fun i_ => absurd (f6 (i_.old (by decide))) hn), fun i_ => ((f5 (i_.old (by decide))).nw ((Nw.refl _).alloc _)).imp fun i_ => i_.old (by decide), fun _ => .now, fun i_ => .too (f7 (i_.old (by decide))), fun _ j_ => (f5 (j_.old (by decide))).apart⟩
  · intro D hd hn a w hI K' hK
    have HK := Lib.hid hK
    clear hK
    obtain ⟨x8, x9, x19, x20, x21, x22, rfl, hN, f0, f1, f2, f3, f4, f5, f6, f7, f8⟩ := hI
    go_wp2_with fail
    exact HK.out _ _ ⟨x8, _, x19, x20, x21, x22, rfl, (hN.alloc _), fun i_ => f0 (i_.old (by decide)), fun i_ => f1 (i_.old (by decide)), fun i_ => f2 (i_.old (by decide)), fun i_ => f3 (i_.old (by decide)), fun i_ => ((f4 (i_.old (by decide))).nw ((Nw.refl _).alloc _)).imp fun i_ => i_.old (by decide), fun _ => BxN.new [.int .i64 0, .int .i64 0, .int .i64 0, .int .i64 0] hN rfl (fun i_ => absurd (f7 (i_.old (by decide))) hn), fun i_ => .too (f6 (i_.old (by decide))), fun _ => .now, fun i_ _ => ((f4 (i_.old (by decide))).apart).symm⟩
  · intro D hd hn a w hI K' hK
    have HK := Lib.hid hK
    clear hK
    obtain ⟨x8, x9, x19, x20, x21, x22, rfl, hN, f0, f1, f2, f3, f4, f5, f6, f7, f8⟩ := hI
    have hb := f4 (hd 4 rfl)
    obtain rfl := f1 (hd 1 rfl)
    obtain ⟨pd, us, rfl, hp, hb, hl, -⟩ := hb
    obtain ⟨z0, z1, z2, z3, rfl⟩ : ∃ z0 z1 z2 z3 : Value, us = [z0, z1, z2, z3] := by
      match us, hl with
      | [z0, z1, z2, z3], _ => exact ⟨_, _, _, _, rfl⟩
    have c0 : w.cell? ⟨pd, 0, none⟩ = some z0 := by simp [World.cell?, hb]
    have d0 : w.frozen? ⟨pd, 0, none⟩ = false := by simp [World.frozen?, hb]
    have c1 : w.cell? ⟨pd, 1, none⟩ = some z1 := by simp [World.cell?, hb]
    have d1 : w.frozen? ⟨pd, 1, none⟩ = false := by simp [World.frozen?, hb]
    have c2 : w.cell? ⟨pd, 2, none⟩ = some z2 := by simp [World.cell?, hb]
    have d2 : w.frozen? ⟨pd, 2, none⟩ = false := by simp [World.frozen?, hb]
    have c3 : w.cell? ⟨pd, 3, none⟩ = some z3 := by simp [World.cell?, hb]
    have d3 : w.frozen? ⟨pd, 3, none⟩ = false := by simp [World.frozen?, hb]
    have hlt := lt_of_block hb
    have HB := Lib.hid hb
    clear hb
    go_wp2_with fail
    have hsc : w.setCells pd 0 [.int .i64 h.thread, .int .i64 h.obj, .int .i64 h.a, .int .i64 h.b] = (World.setCell (World.setCell (World.setCell (World.setCell w ⟨pd, 0, none⟩ (.int .i64 h.thread)) ⟨pd, 1, none⟩ (.int .i64 h.obj)) ⟨pd, 2, none⟩ (.int .i64 h.a)) ⟨pd, 3, none⟩ (.int .i64 h.b)) := by simp only [World.setCells, Nat.zero_add, Nat.reduceAdd]
    rw [← hsc]
    exact HK.out _ _ ⟨_, x9, x19, _, x21, x22, rfl, (nw_setCells hN hp [.int .i64 h.thread, .int .i64 h.obj, .int .i64 h.a, .int .i64 h.b]), fun i_ => f0 (i_.old (by decide)), fun _ => rfl, fun i_ => f2 (i_.old (by decide)), fun i_ => f3 (i_.old (by decide)), fun _ => BxN.put (us := [z0, z1, z2, z3]) rfl hp HB.out, fun i_ => ((f5 (i_.old (by decide))).oth (only_setCells w pd [.int .i64 h.thread, .int .i64 h.obj, .int .i64 h.a, .int .i64 h.b]) ((f8 (hd 4 rfl) (i_.old (by decide))).symm)).imp fun i_ => i_.old (by decide), fun _ => .too (hd 4 rfl), fun i_ => .too (f7 (i_.old (by decide))), fun i_ j_ => f8 (i_.old (by decide)) (j_.old (by decide))⟩
  · intro D hd hn a w hI K' hK
    have HK := Lib.hid hK
    clear hK
    obtain ⟨x8, x9, x19, x20, x21, x22, rfl, hN, f0, f1, f2, f3, f4, f5, f6, f7, f8⟩ := hI
    have hb := f5 (hd 5 rfl)
    obtain rfl := f3 (hd 3 rfl)
    obtain ⟨pd, us, rfl, hp, hb, hl, -⟩ := hb
    obtain ⟨z0, z1, z2, z3, rfl⟩ : ∃ z0 z1 z2 z3 : Value, us = [z0, z1, z2, z3] := by
      match us, hl with
      | [z0, z1, z2, z3], _ => exact ⟨_, _, _, _, rfl⟩
    have c0 : w.cell? ⟨pd, 0, none⟩ = some z0 := by simp [World.cell?, hb]
    have d0 : w.frozen? ⟨pd, 0, none⟩ = false := by simp [World.frozen?, hb]
    have c1 : w.cell? ⟨pd, 1, none⟩ = some z1 := by simp [World.cell?, hb]
    have d1 : w.frozen? ⟨pd, 1, none⟩ = false := by simp [World.frozen?, hb]
    have c2 : w.cell? ⟨pd, 2, none⟩ = some z2 := by simp [World.cell?, hb]
    have d2 : w.frozen? ⟨pd, 2, none⟩ = false := by simp [World.frozen?, hb]
    have c3 : w.cell? ⟨pd, 3, none⟩ = some z3 := by simp [World.cell?, hb]
    have d3 : w.frozen? ⟨pd, 3, none⟩ = false := by simp [World.frozen?, hb]
    have hlt := lt_of_block hb
    have HB := Lib.hid hb
    clear hb
    go_wp2_with fail
    have hsc : w.setCells pd 0 [.int .i64 e.thread, .int .i64 e.obj, .int .i64 e.a, .int .i64 e.b] = (World.setCell (World.setCell (World.setCell (World.setCell w ⟨pd, 0, none⟩ (.int .i64 e.thread)) ⟨pd, 1, none⟩ (.int .i64 e.obj)) ⟨pd, 2, none⟩ (.int .i64 e.a)) ⟨pd, 3, none⟩ (.int .i64 e.b)) := by simp only [World.setCells, Nat.zero_add, Nat.reduceAdd]
    rw [← hsc]
    exact HK.out _ _ ⟨x8, _, x19, x20, x21, _, rfl, (nw_setCells hN hp [.int .i64 e.thread, .int .i64 e.obj, .int .i64 e.a, .int .i64 e.b]), fun i_ => f0 (i_.old (by decide)), fun i_ => f1 (i_.old (by decide)), fun i_ => f2 (i_.old (by decide)), fun _ => rfl, fun i_ => ((f4 (i_.old (by decide))).oth (only_setCells w pd [.int .i64 e.thread, .int .i64 e.obj, .int .i64 e.a, .int .i64 e.b]) (f8 (i_.old (by decide)) (hd 5 rfl))).imp fun i_ => i_.old (by decide), fun _ => BxN.put (us := [z0, z1, z2, z3]) rfl hp HB.out, fun i_ => .too (f6 (i_.old (by decide))), fun _ => .too (hd 5 rfl), fun i_ j_ => f8 (i_.old (by decide)) (j_.old (by decide))⟩
  · intro D a w hall hI
    obtain ⟨x8, x9, x19, x20, x21, x22, rfl, hN, f0, f1, f2, f3, f4, f5, f6, f7, f8⟩ := hI
    obtain rfl := f0 (hall 0 (by decide))
    obtain rfl := f1 (hall 1 (by decide))
    obtain rfl := f2 (hall 2 (by decide))
    obtain rfl := f3 (hall 3 (by decide))
    have ne8_9 := f8 (hall 4 (by decide)) (hall 5 (by decide))
    obtain ⟨q8, us8, rfl, a8, b8, -, c8⟩ := f4 (hall 4 (by decide))
    obtain rfl := c8 (hall 6 (by decide))
    obtain ⟨q9, us9, rfl, a9, b9, -, c9⟩ := f5 (hall 5 (by decide))
    obtain rfl := c9 (hall 7 (by decide))
    exact HQ.out q8 q9 w hN a8 b8 a9 b9 (fun e => ne8_9 (by rw [e]))
end Go.Proofs.YtkbenkldfehhlaaGreatDoor

namespace Go.Proofs.YtkbenkldfehhlaaGreatDoor
open Go Go.RowKit Go.Sort
set_option maxRecDepth 100000
set_option maxHeartbeats 3200000

def difs (h e : Ev) : List Int := [w64 (e.thread - h.thread), w64 (e.obj - h.obj), w64 (e.a - h.a), w64 (e.b - h.b)]
def fourI (e : Ev) : List Int := [e.thread, e.obj, e.a, e.b]
theorem putE_difs (h e : Ev) : putE h e = [e.op] ++ (difs h e).flatMap intB := by simp [putE, difs, List.append_assoc]
theorem fourI_in {e : Ev} (he : e.Ok) : ∀ x ∈ fourI e, in64 x := by
  intro x hx
  simp only [fourI, List.mem_cons, List.not_mem_nil, or_false] at hx
  rcases hx with rfl | rfl | rfl | rfl
  · exact he.thread
  · exact he.obj
  · exact he.a
  · exact he.b
theorem difs_at (h e : Ev) {k : Nat} (hk : k < 4) : ∃ (a b : Int), (fourI h)[k]? = some a ∧ (fourI e)[k]? = some b ∧ (difs h e)[k]? = some (w64 (b - a)) := by
  match k, hk with
  | 0, _ => exact ⟨_, _, rfl, rfl, rfl⟩
  | 1, _ => exact ⟨_, _, rfl, rfl, rfl⟩
  | 2, _ => exact ⟨_, _, rfl, rfl, rfl⟩
  | 3, _ => exact ⟨_, _, rfl, rfl, rfl⟩
theorem four_cell {w : World} {p : Nat} {e : Ev} {T : TypeId} (h : w.heap[p]? = some (.cells #[.int .i64 e.thread, .int .i64 e.obj, .int .i64 e.a, .int .i64 e.b] T (0, 0))) {k : Nat} {a : Int} (hk : (fourI e)[k]? = some a) : w.cell? ⟨p, k, none⟩ = some (.int .i64 a) := by
  obtain ⟨hlt, he⟩ := List.getElem?_eq_some_iff.1 hk
  have h4 : k < 4 := hlt
  match k, h4 with
  | 0, _ => simp [fourI] at he; subst he; simp [World.cell?, h]
  | 1, _ => simp [fourI] at he; subst he; simp [World.cell?, h]
  | 2, _ => simp [fourI] at he; subst he; simp [World.cell?, h]
  | 3, _ => simp [fourI] at he; subst he; simp [World.cell?, h]
theorem sub_u64 {a b : Int} (ha : in64 a) (hb : in64 b) : IntKind.i64.wrap (IntKind.u64.wrap (IntKind.u64.wrap b - IntKind.u64.wrap a)) = w64 (b - a) := by
  unfold in64 at ha hb
  simp only [IntKind.wrap_i64, IntKind.wrap_u64, w64]
  omega

theorem q8 {wc : World} {p8 p9 k vc : Nat} {va : Option Addr} {l : List UInt8} {a b : Int} (hk : k < 4) (HV : Hid (Bs wc (.slice va l.length vc) l)) (hl : l.length ≤ 15000000) (ha : in64 a) (hb : in64 b) (C9 : Hid (wc.cell? ⟨p9, k, none⟩ = some (.int .i64 b))) (C8 : Hid (wc.cell? ⟨p8, k, none⟩ = some (.int .i64 a)))  {u0 u1 u2 u3 u4 u5 u6 u11 u12 u13 u14 u15 u16 u17 u18 u19 u20 u21 u22 u23 u24 u25 u26 u27 u28 u29 u30 u31 u32 u33 u34 u35 u36 u37 u38 u39 : Value} {Q : Exit → Act → World → Prop} (hP : PanicOk Q)
    (hQ : ∀ (s27 s28 s29 s30 s31 s32 s33 s34 s35 s36 s37 s38 : Value) (a2 : Option Addr) (n2 c2 : Nat) (wx : World), (l ++ intB (w64 (b - a))).length = n2 → Vec 1 wx (.slice a2 n2 c2) n2 ((l ++ intB (w64 (b - a))).map u8) → Nw wc wx → (∀ g, (Value.slice a2 n2 c2).ownBlock = some g → wc.heap.size ≤ g) → Q .normal ⟨#[u0, u1, u2, u3, u4, u5, u6, .slice a2 n2 c2, .pointer (some ⟨p8, 0, none⟩), .pointer (some ⟨p9, 0, none⟩), .int .i64 k, u11, u12, u13, u14, u15, u16, u17, u18, u19, u20, u21, u22, u23, u24, u25, u26, s27, s28, s29, s30, s31, s32, s33, s34, s35, s36, s37, s38, u39], []⟩ wx) :
    Code.wp Tryz.prog ((Tryz.f130.body.bind (regionOf 8)).getD .skip) Q ⟨#[u0, u1, u2, u3, u4, u5, u6, .slice va l.length vc, .pointer (some ⟨p8, 0, none⟩), .pointer (some ⟨p9, 0, none⟩), .int .i64 k, u11, u12, u13, u14, u15, u16, u17, u18, u19, u20, u21, u22, u23, u24, u25, u26, u27, u28, u29, u30, u31, u32, u33, u34, u35, u36, u37, u38, u39], []⟩ wc := by
  have _hP := hP
  dsimp only at hQ ⊢
  conv => arg 2; whnf
  have HQ := Lib.hid hQ
  clear hQ
  have hk0 : (0 : Int) ≤ (k : Int) := by omega
  have hk1 : (k : Int) < 4 := by omega
  have SU := sub_u64 ha hb
  have HI := Lib.hid (dInt_ok (HV.out.nw ((Nw.refl wc).drew)) (w64 (b - a)) (w64_in (b - a)).1 (w64_in (b - a)).2 hl)
  refine wp_region_steps 12 [.rd 0, .rd 1, .rd 2, .rd 3, .rd 4, .rd 5, .rd 6, .rd 7, .rd 8, .rd 9, .rd 10, .dn 11] [12] (fun x => x.cell? ⟨p9, k, none⟩ = some (.int .i64 b) ∧ x.cell? ⟨p8, k, none⟩ = some (.int .i64 a)) (by kernel_rfl) (by kernel_rfl) hP ⟨C9.out, C8.out⟩ ?_
  refine stp_to (.slice va l.length vc) rfl rfl rfl (fun x hx => by go_simp) (fun K hK => ?_); go_simp; refine hK _ ?_; clear hK K
  refine stp_to (.int .i64 k) rfl rfl rfl (fun x hx => by go_simp) (fun K hK => ?_); go_simp; refine hK _ ?_; clear hK K
  refine stp_to (.pointer (some ⟨p9, k, none⟩)) rfl rfl rfl (fun x hx => by go_simp) (fun K hK => ?_); go_simp; refine hK _ ?_; clear hK K
  refine stp_to (.int .i64 b) rfl rfl rfl (fun x hx => by obtain ⟨e1, e2⟩ := hx; go_simp) (fun K hK => ?_); go_simp; refine hK _ ?_; clear hK K
  refine stp_to (.int .u64 (IntKind.u64.wrap b)) rfl rfl rfl (fun x hx => by go_simp) (fun K hK => ?_); go_simp; refine hK _ ?_; clear hK K
  refine stp_to (.int .i64 k) rfl rfl rfl (fun x hx => by go_simp) (fun K hK => ?_); go_simp; refine hK _ ?_; clear hK K
  refine stp_to (.pointer (some ⟨p8, k, none⟩)) rfl rfl rfl (fun x hx => by go_simp) (fun K hK => ?_); go_simp; refine hK _ ?_; clear hK K
  refine stp_to (.int .i64 a) rfl rfl rfl (fun x hx => by obtain ⟨e1, e2⟩ := hx; go_simp) (fun K hK => ?_); go_simp; refine hK _ ?_; clear hK K
  refine stp_to (.int .u64 (IntKind.u64.wrap a)) rfl rfl rfl (fun x hx => by go_simp) (fun K hK => ?_); go_simp; refine hK _ ?_; clear hK K
  refine stp_to (.int .u64 (IntKind.u64.wrap (IntKind.u64.wrap b - IntKind.u64.wrap a))) rfl rfl rfl (fun x hx => by go_simp) (fun K hK => ?_); go_simp; refine hK _ ?_; clear hK K
  refine stp_to (.int .i64 (w64 (b - a))) rfl rfl rfl (fun x hx => by go_simp) (fun K hK => ?_); go_simp; refine hK _ ?_; clear hK K
  refine stp_dn rfl (fun K hK => ?_)
  go_wp2_with fail
  refine HI.out.mono ?_
  rintro e w1 ⟨v', rfl, b2, n2, f2⟩
  obtain ⟨a2, c2, rfl, -⟩ := b2.len
  obtain ⟨n', hn'⟩ : ∃ x, (l ++ intB (w64 (b - a))).length = x := ⟨_, rfl⟩
  rw [hn'] at b2 f2 ⊢
  have B2 := Lib.hid b2
  have N2 := Lib.hid (((Nw.refl wc).drew).trans n2)
  have F2 := Lib.hid f2
  have HN' := Lib.hid hn'
  clear b2 n2 f2 hn'
  go_wp2
  refine hK _ _ ⟨N2.out.cell C9.out, N2.out.cell C8.out⟩ ?_; clear hK K
  refine wpSteps_nil ?_
  refine stp_do rfl (by decide) (fun K hK => ?_)
  go_wp2
  (try (refine hK _ _ ?_; clear hK K))
  refine wpNums_nil ?_
  exact HQ.out _ _ _ _ _ _ _ _ _ _ _ _  a2 n' c2 w1 HN'.out B2.out N2.out F2.out

theorem difs_len (h e : Ev) (k : Nat) : (((difs h e).take k).flatMap intB).length ≤ 40 := by
  have h1 : ((difs h e).flatMap intB).length ≤ 40 := by have := putE_len h e; rw [putE_difs] at this; simp only [List.length_append, List.length_singleton] at this; omega
  have h2 : (difs h e).flatMap intB = ((difs h e).take k).flatMap intB ++ ((difs h e).drop k).flatMap intB := by rw [← List.flatMap_append, List.take_append_drop]
  rw [h2, List.length_append] at h1
  omega
theorem difs_next (h e : Ev) {k : Nat} {x : Int} (hx : (difs h e)[k]? = some x) : ((difs h e).take (k + 1)).flatMap intB = ((difs h e).take k).flatMap intB ++ intB x := by
  rw [List.take_add_one, hx]
  simp
theorem dPut_ok {w : World} {v : Value} {l : List UInt8} (hv : Bs w v l) (h e : Ev) (hh : h.Ok) (he : e.Ok) (hl : l.length ≤ 14000000) :
    Calls Tryz.prog 130 #[v, .agg (evV h).toArray, .agg (evV e).toArray] w (NewB w (l ++ putE h e)) := by
  obtain ⟨i0, hi, hz0, hz1, hz2⟩ := info_parts infoU8
  have HI := Lib.hid hi
  have HZ0 := Lib.hid hz0
  have HZ1 := Lib.hid hz1
  have HZ2 := Lib.hid hz2
  clear hi hz0 hz1 hz2
  obtain ⟨va, vc, rfl, -⟩ := hv.len
  have HV := Lib.hid hv
  have HH := Lib.hid hh
  have HE := Lib.hid he
  clear hv hh he
  go_enter Tryz.func130, Tryz.ntmps130
  have HX := Lib.hid (two_boxes w (evV h).toArray (evV e).toArray 87 87)
  have V0 := Lib.hid (HV.out.nw HX.out.1)
  obtain ⟨w1, hw1⟩ : ∃ x, (w.alloc (.cells (evV h).toArray 87 (0, 0))).alloc (.cells (evV e).toArray 87 (0, 0)) = x := ⟨_, rfl⟩
  rw [hw1] at HX V0
  unfold evV at hw1 ⊢
  go_upto_region 2 with fail
  clear hw1
  go_wp2_with (at_builtin; refine wpList_append_vec rfl _ _ 79 rfl 5 i0 (.int .u8 0) 1 1 Tryz.underlying79 HI.out HZ0.out HZ1.out HZ2.out rfl (by decide) rfl rfl (Vec.nil (w := w1)) (SrcV.of_rd V0.out) (u8s_one _) ?c1 ?c2 ?_)
  case c1 => simp [maxLen]; omega
  case c2 => simp; omega
  intro v2 w2 q1 q2 q3
  have V2 := Lib.hid q1
  have N2 : Hid (Nw w1 w2) := Lib.hid (q2.mono (fun k _ hk => by cases hk))
  have F2 : Hid (∀ g, v2.ownBlock = some g → w1.heap.size ≤ g) := Lib.hid (fun g hg => by
    rcases q3 with hf | hf
    · rw [hf] at hg; cases hg
    · exact hf g hg)
  obtain ⟨a2, c2, rfl, -⟩ := q1.len
  clear q1 q2 q3
  have X5 := ev_cells (N2.out.at_ HX.out.2.2.1)
  obtain ⟨-, x1, -⟩ := X5
  have s4 := src_lit w2 5 (0, 0) 1 1 1 [.int .u8 e.op.toNat] rfl (by omega) (by simp [maxLen])
  have X4 := Lib.hid s4
  clear s4
  go_wp2_with (at_builtin; refine wpList_append_vec rfl _ _ 79 rfl 5 i0 (.int .u8 0) 1 1 Tryz.underlying79 HI.out HZ0.out HZ1.out HZ2.out rfl (by decide) rfl rfl (V2.out.nw ((Nw.refl w2).alloc _)) X4.out ?c3 ?c4 ?c5 ?_)
  case c3 => exact fun u hu => by rw [List.mem_singleton] at hu; subst hu; rfl
  case c4 => simp [maxLen]; omega
  case c5 => simp; omega
  intro v3 w3 q1 q2 q3
  have hlen : (l ++ [e.op]).length = l.length + 1 := by simp
  have V3 : Hid (Vec 1 w3 v3 (l ++ [e.op]).length ((l ++ [e.op]).map u8)) := Lib.hid (by rw [hlen]; simpa [u8] using q1)
  have N3 : Hid (Nw w w3) := Lib.hid (((HX.out.1.trans N2.out).trans ((Nw.refl w2).alloc _)).trans' q2 (fun k hk e => by have := F2.out k e; have := HX.out.1.size; omega))
  have N23 : Hid (Nw w1 w3) := Lib.hid ((N2.out.trans ((Nw.refl w2).alloc _)).trans' q2 (fun k hk e => by have := F2.out k e; omega))
  have F3 : Hid (∀ g, v3.ownBlock = some g → w.heap.size ≤ g) := Lib.hid (fun g hg => by
    have h1 := HX.out.1.size
    have h2 := N2.out.size
    rcases q3 with hf | hf
    · have := F2.out g (hf ▸ hg); omega
    · have := hf g hg; omega)
  have H4 := Lib.hid (N23.out.at_ HX.out.2.1)
  have H5 := Lib.hid (N23.out.at_ HX.out.2.2.1)
  obtain ⟨a3, c3, rfl, -⟩ := q1.len
  clear q1 q2 q3 x1 X4 V2 N2 F2 V0
  go_upto_region 4 with fail
  refine q4 H4 H5 ?_
  intro p8 p9 w4 n4 _ b8 _ b9 _
  have B8 := Lib.hid b8
  have B9 := Lib.hid b9
  have N4 := Lib.hid n4
  have V4 := Lib.hid (V3.out.nw n4)
  rw [← hlen]
  clear b8 b9 n4 V3 hlen
  go_wp2
  go_loopw [7, 10] (fun v iv wr => ∃ (k : Nat) (a : Option Addr) (c : Nat), k ≤ 4 ∧ iv = .int .i64 k ∧ v = .slice a (l ++ [e.op] ++ ((difs h e).take k).flatMap intB).length c ∧ Vec 1 wr v (l ++ [e.op] ++ ((difs h e).take k).flatMap intB).length ((l ++ [e.op] ++ ((difs h e).take k).flatMap intB).map u8) ∧ Nw w4 wr ∧ ∀ g, v.ownBlock = some g → w.heap.size ≤ g) (fun _ iv _ => 4 - (intOf iv).toNat)
  case atStart => exact ⟨0, a3, c3, by omega, rfl, by simp, by simpa using V4.out, Nw.refl _, by simpa using F3.out⟩
  case round =>
    obtain ⟨k, a, c, hk, rfl, rfl, hv, hn, hf⟩ := hrel
    have HV := Lib.hid hv
    have HN := Lib.hid hn
    have HF := Lib.hid hf
    have hll := difs_len h e k
    obtain ⟨L, hL⟩ : ∃ x, l ++ [e.op] ++ ((difs h e).take k).flatMap intB = x := ⟨_, rfl⟩
    have hLl : L.length ≤ 14000041 := by rw [← hL]; simp only [List.length_append, List.length_singleton]; omega
    rw [hL] at HV HF ⊢
    have HL := Lib.hid hL
    clear hv hn hf hll hL
    by_cases hk4 : k < 4
    · obtain ⟨x, y, hx, hy, hxy⟩ := difs_at h e hk4
      have hne := difs_next h e hxy
      have HNE := Lib.hid hne
      have HX1 := Lib.hid (fourI_in HH.out x (List.mem_of_getElem? hx))
      have HY1 := Lib.hid (fourI_in HE.out y (List.mem_of_getElem? hy))
      have HC8 := Lib.hid (HN.out.cell (four_cell B8.out hx))
      have HC9 := Lib.hid (HN.out.cell (four_cell B9.out hy))
      clear hx hy hxy hne
      have q1 : decide ((k : Int) < 4) = true := by simp; omega
      have hwk : IntKind.i64.wrap ((k : Int) + 1) = ((k + 1 : Nat) : Int) := by rw [← Int.natCast_one, ← Int.natCast_add]; exact IntWalk.i64_in _ (by omega)
      go_upto_region 8 with fail
      refine q8 hk4 (Lib.hid (Vec.rd (f := u8) HV.out)) (by omega) HX1.out HY1.out HC9 HC8 (fun _ _ _ _ _ h => h) ?_
      intro s27 s28 s29 s30 s31 s32 s33 s34 s35 s36 s37 s38 a5 n5 c5 w5 hn5 v5 nw5 f5
      have E5 : l ++ [e.op] ++ ((difs h e).take (k + 1)).flatMap intB = L ++ intB (w64 (y - x)) := by rw [HNE.out, ← HL.out]; simp
      have V5 := Lib.hid v5
      have NW5 := Lib.hid nw5
      have F5 := Lib.hid f5
      have HN5 := Lib.hid hn5
      have EE := Lib.hid E5
      clear v5 nw5 f5 hn5 E5
      go_wp2
      go_roundw
      case rel => exact ⟨k + 1, a5, c5, by omega, by first | rfl | (simp; done) | rw [hwk], by rw [EE.out, HN5.out], by rw [EE.out, HN5.out]; exact V5.out, HN.out.trans NW5.out, fun g hg => Nat.le_trans (Nat.le_trans N3.out.size (N4.out.trans HN.out).size) (F5.out g hg)⟩
      case measure => simp only [intOf]; omega
    · obtain rfl : k = 4 := by omega
      have e4 : l ++ putE h e = L := by rw [← HL.out, putE_difs]; simp [difs]
      have E4 := Lib.hid e4
      clear e4
      rw [show ((4 : Nat) : Int) = (4 : Int) from rfl]
      go_wp2
      go_ret
      rw [E4.out]
      exact ⟨_, rfl, HV.out, (N3.out.trans N4.out).trans HN.out, HF.out⟩
end Go.Proofs.YtkbenkldfehhlaaGreatDoor

namespace Go.Proofs.YtkbenkldfehhlaaGreatDoor
open Go Go.RowKit Go.Sort
set_option maxRecDepth 100000
set_option maxHeartbeats 3200000

def EvAt (w : World) (g o : Nat) (e : Ev) : Prop := w.cell? ⟨g, o, none⟩ = some (.int .i64 e.thread) ∧ w.cell? ⟨g, o + 1, none⟩ = some (.int .u8 e.op.toNat) ∧ w.cell? ⟨g, o + 2, none⟩ = some (.int .i64 e.obj) ∧ w.cell? ⟨g, o + 3, none⟩ = some (.int .i64 e.a) ∧ w.cell? ⟨g, o + 4, none⟩ = some (.int .i64 e.b)
theorem EvAt.nw {w w' : World} {g o : Nat} {e : Ev} (h : EvAt w g o e) (hw : Nw w w') : EvAt w' g o e := ⟨hw.cell h.1, hw.cell h.2.1, hw.cell h.2.2.1, hw.cell h.2.2.2.1, hw.cell h.2.2.2.2⟩
theorem evs_at {w : World} {v : Value} {l : List Ev} (h : Evs w v l) : ∃ a cap, v = .slice a l.length cap ∧ l.length ≤ maxLen ∧ ∀ i (hi : i < l.length), ∃ g o, a = some ⟨g, o, none⟩ ∧ g < w.heap.size ∧ EvAt w g (o + i * 5) l[i] := h.elem

theorem f24 {wc : World} {g o n k cap p6 : Nat} {h : Ev} {kz : Int} {tb : Bool} (hkz : kz = (k : Int)) (htb : tb = decide (0 < k)) (hn : n ≤ 4096) (hk : k < n) (hlt : p6 < wc.heap.size) (HB : Hid (wc.heap[p6]? = some (.cells (evV Ev.zero).toArray 87 (0, 0)))) (HE : Hid (0 < k → EvAt wc g (o + (k - 1) * 5) h)) (HZ : Hid (k = 0 → h = Ev.zero))  {u1 u2 u3 u4 u7 u8 u9 u10 u11 u12 u13 u14 u15 u16 u17 u18 u19 u20 u21 u22 u23 u25 u26 u27 u28 u29 u30 u31 u32 u33 u34 u35 u36 u37 u38 u39 u40 u41 u42 u43 : Value} {Q : Exit → Act → World → Prop} (hP : PanicOk Q)
    (hQ : ∀ (s25 s26 s27 s28 s29 : Value)  (wx : World), Only (fun j => j = p6) wc wx → wx.heap[p6]? = some (.cells (evV h).toArray 87 (0, 0)) → Q .normal ⟨#[.slice (some ⟨g, o, none⟩) n cap, u1, u2, u3, u4, .int .i64 kz, .pointer (some ⟨p6, 0, none⟩), u7, u8, u9, u10, u11, u12, u13, u14, u15, u16, u17, u18, u19, u20, u21, u22, u23, .bool tb, s25, s26, s27, s28, s29, u30, u31, u32, u33, u34, u35, u36, u37, u38, u39, u40, u41, u42, u43], []⟩ wx) :
    Code.wp Tryz.prog ((Tryz.f76.body.bind (condOf 24)).getD .skip) Q ⟨#[.slice (some ⟨g, o, none⟩) n cap, u1, u2, u3, u4, .int .i64 kz, .pointer (some ⟨p6, 0, none⟩), u7, u8, u9, u10, u11, u12, u13, u14, u15, u16, u17, u18, u19, u20, u21, u22, u23, .bool tb, u25, u26, u27, u28, u29, u30, u31, u32, u33, u34, u35, u36, u37, u38, u39, u40, u41, u42, u43], []⟩ wc := by
  have _hP := hP
  dsimp only at hQ ⊢
  conv => arg 2; whnf
  have HQ := Lib.hid hQ
  clear hQ
  by_cases hk0 : k = 0
  · have hz := HZ.out hk0
    obtain rfl : tb = false := by rw [htb, hk0]; rfl
    subst hz
    go_wp2
    exact HQ.out _ _ _ _ _  _ (Only.refl _) HB.out
  · obtain rfl : tb = true := by rw [htb]; simp; omega
    obtain ⟨j, rfl⟩ : ∃ j, k = j + 1 := ⟨k - 1, by omega⟩
    have he := HE.out (by omega)
    rw [Nat.add_sub_cancel] at he
    obtain ⟨e0, e1, e2, e3, e4⟩ := he
    have hj : IntKind.i64.wrap (kz - 1) = (j : Int) := by rw [show kz - 1 = (j : Int) by omega]; exact IntWalk.i64_in _ (by omega)
    have hj0 : (0 : Int) ≤ (j : Int) := by omega
    have hj1 : (j : Int) < (n : Int) := by omega
    have b0 : wc.cell? ⟨p6, 0, none⟩ = some (.int .i64 0) := by simp [World.cell?, HB.out, evV, Ev.zero]
    have b1 : wc.cell? ⟨p6, 1, none⟩ = some (.int .u8 0) := by simp [World.cell?, HB.out, evV, Ev.zero]
    have b2 : wc.cell? ⟨p6, 2, none⟩ = some (.int .i64 0) := by simp [World.cell?, HB.out, evV, Ev.zero]
    have b3 : wc.cell? ⟨p6, 3, none⟩ = some (.int .i64 0) := by simp [World.cell?, HB.out, evV, Ev.zero]
    have b4 : wc.cell? ⟨p6, 4, none⟩ = some (.int .i64 0) := by simp [World.cell?, HB.out, evV, Ev.zero]
    have z0 : wc.frozen? ⟨p6, 0, none⟩ = false := by simp [World.frozen?, HB.out]
    have z1 : wc.frozen? ⟨p6, 1, none⟩ = false := by simp [World.frozen?, HB.out]
    have z2 : wc.frozen? ⟨p6, 2, none⟩ = false := by simp [World.frozen?, HB.out]
    have z3 : wc.frozen? ⟨p6, 3, none⟩ = false := by simp [World.frozen?, HB.out]
    have z4 : wc.frozen? ⟨p6, 4, none⟩ = false := by simp [World.frozen?, HB.out]
    clear HE HZ hkz htb
    go_wp2
    have hsc : wc.setCells p6 0 [.int .i64 h.thread, .int .u8 h.op.toNat, .int .i64 h.obj, .int .i64 h.a, .int .i64 h.b] = ((((wc.setCell ⟨p6, 0, none⟩ (.int .i64 h.thread)).setCell ⟨p6, 1, none⟩ (.int .u8 h.op.toNat)).setCell ⟨p6, 2, none⟩ (.int .i64 h.obj)).setCell ⟨p6, 3, none⟩ (.int .i64 h.a)).setCell ⟨p6, 4, none⟩ (.int .i64 h.b) := by simp only [World.setCells, Nat.zero_add, Nat.reduceAdd]
    rw [← hsc]
    exact HQ.out _ _ _ _ _  _ (only_setCells wc p6 _) (heap_setCells_at (evV h) [] (evV Ev.zero) wc rfl HB.out)

theorem f12 {wc : World} {g o n k cap p6 bn bc : Nat} {ba : Option Addr} {h e : Ev} {l : List UInt8} (hk : k < n) (hcap : n ≤ cap) (HV : Hid (Bs wc (.slice ba bn bc) l)) (hbn : l.length = bn) (hl : l.length ≤ 14000000) (HH : Hid h.Ok) (HEO : Hid e.Ok) (HA : Hid (EvAt wc p6 0 h)) (HE : Hid (EvAt wc g (o + k * 5) e))  {u1 u2 u3 u7 u8 u9 u10 u11 u12 u13 u14 u15 u16 u17 u18 u19 u20 u21 u22 u23 u24 u25 u26 u27 u28 u29 u30 u31 u32 u33 u34 u35 u36 u37 u38 u39 u40 u41 u42 u43 : Value} {Q : Exit → Act → World → Prop} (hP : PanicOk Q)
    (hQ : ∀ (s30 s31 s32 s33 s34 s35 s36 : Value) (b2 : Option Addr) (n2 c2 : Nat) (wx : World), (l ++ putE h e).length = n2 → Vec 1 wx (.slice b2 n2 c2) n2 ((l ++ putE h e).map Go.Proofs.YtkbenkldfehhlaaGreatDoor.u8) → Nw wc wx → (∀ g, (Value.slice b2 n2 c2).ownBlock = some g → wc.heap.size ≤ g) → Q .normal ⟨#[.slice (some ⟨g, o, none⟩) n cap, u1, u2, u3, .slice b2 n2 c2, .int .i64 k, .pointer (some ⟨p6, 0, none⟩), u7, u8, u9, u10, u11, u12, u13, u14, u15, u16, u17, u18, u19, u20, u21, u22, u23, u24, u25, u26, u27, u28, u29, s30, s31, s32, s33, s34, s35, s36, u37, u38, u39, u40, u41, u42, u43], []⟩ wx) :
    Code.wp Tryz.prog ((Tryz.f76.body.bind (regionOf 12)).getD .skip) Q ⟨#[.slice (some ⟨g, o, none⟩) n cap, u1, u2, u3, .slice ba bn bc, .int .i64 k, .pointer (some ⟨p6, 0, none⟩), u7, u8, u9, u10, u11, u12, u13, u14, u15, u16, u17, u18, u19, u20, u21, u22, u23, u24, u25, u26, u27, u28, u29, u30, u31, u32, u33, u34, u35, u36, u37, u38, u39, u40, u41, u42, u43], []⟩ wc := by
  have _hP := hP
  dsimp only at hQ ⊢
  conv => arg 2; whnf
  have HQ := Lib.hid hQ
  clear hQ
  subst hbn
  have hk0 : (0 : Int) ≤ (k : Int) := by omega
  have hk1 : (k : Int) < (n : Int) := by omega
  have PT := Lib.hid (dPut_ok (HV.out.nw ((Nw.refl wc).drew)) h e HH.out HEO.out hl)
  unfold evV at PT
  refine wp_region_steps 7 [.rd 0, .rd 1, .rd 2, .rd 3, .rd 4, .rd 5, .dn 6] [7] (fun x => EvAt x p6 0 h ∧ EvAt x g (o + k * 5) e) (by kernel_rfl) (by kernel_rfl) hP ⟨HA.out, HE.out⟩ ?_
  refine stp_to (.slice ba l.length bc) rfl rfl rfl (fun x hx => by go_simp) (fun K hK => ?_); go_simp; refine hK _ ?_; clear hK K
  refine stp_to (.agg #[.int .i64 h.thread, .int .u8 h.op.toNat, .int .i64 h.obj, .int .i64 h.a, .int .i64 h.b]) rfl rfl rfl (fun x hx => by obtain ⟨⟨a0, a1, a2, a3, a4⟩, e0, e1, e2, e3, e4⟩ := hx; go_simp) (fun K hK => ?_); go_simp; refine hK _ ?_; clear hK K
  refine stp_to (.slice (some ⟨g, o, none⟩) n cap) rfl rfl rfl (fun x hx => by go_simp) (fun K hK => ?_); go_simp; refine hK _ ?_; clear hK K
  refine stp_to (.int .i64 k) rfl rfl rfl (fun x hx => by go_simp) (fun K hK => ?_); go_simp; refine hK _ ?_; clear hK K
  refine stp_to (.pointer (some ⟨g, o + k * 5, none⟩)) rfl rfl rfl (fun x hx => by go_simp) (fun K hK => ?_); go_simp; refine hK _ ?_; clear hK K
  refine stp_to (.agg #[.int .i64 e.thread, .int .u8 e.op.toNat, .int .i64 e.obj, .int .i64 e.a, .int .i64 e.b]) rfl rfl rfl (fun x hx => by obtain ⟨⟨a0, a1, a2, a3, a4⟩, e0, e1, e2, e3, e4⟩ := hx; go_simp) (fun K hK => ?_); go_simp; refine hK _ ?_; clear hK K
  refine stp_dn rfl (fun K hK => ?_)
  go_wp2_with fail
  refine PT.out.mono ?_
  rintro z w1 ⟨v', rfl, b2, n2, f2⟩
  obtain ⟨a2, c2, rfl, -⟩ := b2.len
  obtain ⟨n', hn'⟩ : ∃ x, (l ++ putE h e).length = x := ⟨_, rfl⟩
  rw [hn'] at b2 f2 ⊢
  have B2 := Lib.hid b2
  have N2 := Lib.hid (((Nw.refl wc).drew).trans n2)
  have F2 := Lib.hid f2
  have HN' := Lib.hid hn'
  clear b2 n2 f2 hn'
  go_wp2
  refine hK _ _ ⟨HA.out.nw N2.out, HE.out.nw N2.out⟩ ?_; clear hK K
  refine wpSteps_nil ?_
  refine stp_do rfl (by decide) (fun K hK => ?_)
  go_wp2
  (try (refine hK _ _ ?_; clear hK K))
  refine wpNums_nil ?_
  exact HQ.out _ _ _ _ _ _ _  a2 n' c2 w1 HN'.out B2.out N2.out F2.out

theorem dFrame_no {w : World} {v : Value} {l : List Ev} (hv : Evs w v l) (x : Int) (hx : (l.length = 0 ∧ x = 2) ∨ (4096 < l.length ∧ x = 3)) :
    Calls Tryz.prog 76 #[v] w fun e w' => e = .returned (.tuple #[.slice none 0 0, .int .i64 x]) ∧ w = w' := by
  obtain ⟨a, cap, rfl, -, -⟩ := hv.elem
  clear hv
  obtain ⟨n, hn⟩ : ∃ n, l.length = n := ⟨_, rfl⟩
  rw [hn] at hx ⊢
  clear hn
  rcases hx with ⟨rfl, rfl⟩ | ⟨h, rfl⟩
  · go_enter Tryz.func76, Tryz.ntmps76
    go_wp2
    refine bodyPost_ret (v := .tuple #[.slice none 0 0, .int .i64 2]) (by simp [results, Tryz.results76, go_sem]) rfl ⟨rfl, rfl⟩
  · have q1 : ((n : Int) == 0) = false := by simp; omega
    have q2 : decide ((4096 : Int) < (n : Int)) = true := by simp; omega
    go_enter Tryz.func76, Tryz.ntmps76
    go_wp2
    refine bodyPost_ret (v := .tuple #[.slice none 0 0, .int .i64 3]) (by simp [results, Tryz.results76, go_sem]) rfl ⟨rfl, rfl⟩
theorem dFrame_ok {w : World} {v : Value} {l : List Ev} (hv : Evs w v l) (h0 : l.length ≠ 0) (h1 : l.length ≤ 4096) :
    Calls Tryz.prog 76 #[v] w (NewE w (frmB l)) := by
  obtain ⟨i0, hi, hz0, hz1, hz2⟩ := info_parts infoU8
  have HI := Lib.hid hi
  have HZ0 := Lib.hid hz0
  have HZ1 := Lib.hid hz1
  have HZ2 := Lib.hid hz2
  clear hi hz0 hz1 hz2
  have HOK := Lib.hid hv.ok
  obtain ⟨a, cap, rfl, hm, hel⟩ := evs_at hv
  have hcap : l.length ≤ cap := by
    obtain ⟨-, ⟨b, hb, hz⟩ | ⟨g, o, c, hb, hc, -⟩⟩ := hv.src
    · omega
    · have : cap = c := by simpa using congrArg (fun v => match v with | .slice _ _ c => c | _ => 0) hb
      omega
  have HE := Lib.hid hel
  clear hel hv
  obtain ⟨n, hn⟩ : ∃ n, l.length = n := ⟨_, rfl⟩
  rw [hn] at h0 h1 hm hcap ⊢
  have HN := Lib.hid hn
  clear hn
  have q1 : ((n : Int) == 0) = false := by simp; omega
  have q2 : decide ((4096 : Int) < (n : Int)) = false := by simp; omega
  have hw2 : IntKind.u64.wrap (n : Int) = (n : Int) := by rw [IntKind.wrap_u64]; omega
  go_enter Tryz.func76, Tryz.ntmps76
  go_wp2_with fail
  refine (Varint_ok n (by omega) w).mono ?_
  rintro z w1 ⟨v1, rfl, b1, n1, f1⟩
  have B1 := Lib.hid b1
  have N1 := Lib.hid n1
  have F1 := Lib.hid f1
  obtain ⟨a1, c1, rfl, -⟩ := b1.len
  clear b1 n1 f1
  go_wp2
  go_loopw [4, 5] (fun b iv wr => ∃ (k : Nat) (a : Option Addr) (c : Nat), k ≤ n ∧ iv = .int .i64 k ∧ b = .slice a (uintB n ++ putL Ev.zero (l.take k)).length c ∧ Vec 1 wr b (uintB n ++ putL Ev.zero (l.take k)).length ((uintB n ++ putL Ev.zero (l.take k)).map Go.Proofs.YtkbenkldfehhlaaGreatDoor.u8) ∧ Nw w wr ∧ ∀ g, b.ownBlock = some g → w.heap.size ≤ g) (fun _ iv _ => n - (intOf iv).toNat)
  case atStart => exact ⟨0, a1, c1, by omega, rfl, by simp [putL], by simpa [putL] using B1.out, N1.out, F1.out⟩
  case round =>
    obtain ⟨k, ba, bc, hk, rfl, rfl, hb, hw, hf⟩ := hrel
    have hlen : (uintB n ++ putL Ev.zero (l.take k)).length ≤ 41 * k + 10 := by
      have h1 := putL_len (l.take k) Ev.zero
      have h2 := uintB_len n 10 (by omega) (Nat.lt_trans (show n < 2 ^ 64 by omega) (by decide))
      rw [List.length_append]
      have h3 : (l.take k).length ≤ k := by simp; omega
      omega
    have HB := Lib.hid hb
    have HW := Lib.hid hw
    have HF := Lib.hid hf
    clear hb hw hf B1 N1 F1
    by_cases hlt : k < n
    · have hkl : k < l.length := by rw [HN.out]; exact hlt
      have hsnoc : l.take (k + 1) = l.take k ++ [l[k]] := List.take_succ_eq_append_getElem hkl
      have HB1 : uintB n ++ putL Ev.zero (l.take (k + 1)) = (uintB n ++ putL Ev.zero (l.take k)) ++ putE (lastE Ev.zero (l.take k)) l[k] := by rw [hsnoc, putL_snoc, List.append_assoc]
      have HO1 : Hid (lastE Ev.zero (l.take k)).Ok := Lib.hid (lastE_ok zero_ok fun e he => HOK.out e (List.mem_of_mem_take he))
      have HO2 : Hid (l[k] : Ev).Ok := Lib.hid (HOK.out _ (List.getElem_mem hkl))
      obtain ⟨g, o, rfl, hg, he⟩ := HE.out k hkl
      have HLE : Hid (0 < k → EvAt wr g (o + (k - 1) * 5) (lastE Ev.zero (l.take k))) := Lib.hid (fun h0 => by
        obtain ⟨j, rfl⟩ : ∃ j, k = j + 1 := ⟨k - 1, by omega⟩
        have hj : j < l.length := by omega
        obtain ⟨g', o', e', -, h'⟩ := HE.out j hj
        obtain ⟨rfl, rfl⟩ : g = g' ∧ o = o' := by simpa using e'
        have e2 : lastE Ev.zero (l.take (j + 1)) = l[j] := by rw [List.take_succ_eq_append_getElem hj]; unfold lastE; rw [List.getLastD_eq_getLast?, List.getLast?_append]; rfl
        rw [e2, Nat.add_sub_cancel]
        exact h'.nw HW.out)
      have HZE : Hid (k = 0 → lastE Ev.zero (l.take k) = Ev.zero) := Lib.hid (fun h0 => by subst h0; rfl)
      have HEK := Lib.hid (he.nw HW.out)
      obtain ⟨b2, hb2⟩ : ∃ b2, uintB n ++ putL Ev.zero (l.take (k + 1)) = b2 := ⟨_, rfl⟩
      have HBX := Lib.hid hb2
      rw [hb2] at HB1
      generalize uintB n ++ putL Ev.zero (l.take k) = b1 at HB HF HB1 hlen
      generalize lastE Ev.zero (l.take k) = h1 at HO1 HLE HZE HB1
      generalize l[k] = x at HO2 HEK HB1
      subst HB1
      obtain ⟨bn, hbn⟩ : ∃ x, b1.length = x := ⟨_, rfl⟩
      rw [hbn] at HB HF hlen ⊢
      have q3 : decide ((k : Int) < (n : Int)) = true := by simp; omega
      have hwk : IntKind.i64.wrap ((k : Int) + 1) = ((k + 1 : Nat) : Int) := by rw [← Int.natCast_one, ← Int.natCast_add]; exact IntWalk.i64_in _ (by omega)
      clear hsnoc hkl he hb2
      have HZB : Hid ((wr.alloc (.cells #[.int .i64 0, .int .u8 0, .int .i64 0, .int .i64 0, .int .i64 0] 87 (0, 0))).heap[wr.heap.size]? = some (.cells (evV Ev.zero).toArray 87 (0, 0))) := Lib.hid (by simpa [evV, Ev.zero] using heap_alloc_new wr (.cells #[.int .i64 0, .int .u8 0, .int .i64 0, .int .i64 0, .int .i64 0] 87 (0, 0)))
      have NA := (Nw.refl wr).alloc (.cells #[.int .i64 0, .int .u8 0, .int .i64 0, .int .i64 0, .int .i64 0] 87 (0, 0))
      have NA := Lib.hid NA
      go_upto_if 24 with fail
      refine f24 (k := k) (n := n) rfl (by simp) (by omega) hlt (lt_of_block HZB.out) HZB (Lib.hid fun h0 => (HLE.out h0).nw NA.out) HZE (fun _ _ _ _ _ h => h) ?_
      intro s25 s26 s27 s28 s29 wx hO hX
      have NX : Hid (Nw wr wx) := Lib.hid (NA.out.trans' hO fun j hj e => by omega)
      have HAE : Hid (EvAt wx wr.heap.size 0 h1) := Lib.hid (by simp [EvAt, World.cell?, hX, evV])
      clear hO hX NA HZB HLE HZE
      go_upto_region 12 with fail
      refine f12 hlt hcap (Lib.hid (Vec.rd (f := Go.Proofs.YtkbenkldfehhlaaGreatDoor.u8) (by rw [hbn]; exact HB.out.nw NX.out))) hbn (by omega) HO1 HO2 HAE (Lib.hid (HEK.out.nw NX.out)) (fun _ _ _ _ _ h => h) ?_
      intro s30 s31 s32 s33 s34 s35 s36 a5 n5 c5 w5 hn5 v5 nw5 f5
      have V5 := Lib.hid v5
      have NW5 := Lib.hid nw5
      have F5 := Lib.hid f5
      have HN5 := Lib.hid hn5
      clear v5 nw5 f5 hn5
      go_wp2
      go_roundw
      case rel => exact ⟨k + 1, a5, c5, by omega, by first | rfl | (simp; done) | rw [hwk], by rw [HBX.out, HN5.out], by rw [HBX.out, HN5.out]; exact V5.out, (HW.out.trans NX.out).trans NW5.out, fun g hg => Nat.le_trans (HW.out.trans NX.out).size (F5.out g hg)⟩
      case measure => simp only [intOf]; omega
    · obtain rfl : k = n := by omega
      have q3 : decide ((k : Int) < (k : Int)) = false := by simp
      have eb : uintB k ++ putL Ev.zero (l.take k) = bodyB l := by unfold bodyB; rw [List.take_of_length_le (by rw [HN.out]; omega), HN.out]
      rw [eb] at HB HF hlen ⊢
      have HFR : Hid (frmB l = uintB (bodyB l).length ++ sealB sumB (bodyB l)) := Lib.hid rfl
      obtain ⟨fr, hfr⟩ : ∃ x, frmB l = x := ⟨_, rfl⟩
      rw [hfr] at HFR
      have HFE := Lib.hid hfr
      clear hfr
      generalize bodyB l = bd at HB HF hlen HFR
      obtain ⟨bn, hbn⟩ : ∃ x, bd.length = x := ⟨_, rfl⟩
      rw [hbn] at HB HF hlen HFR ⊢
      have hw3 : IntKind.u64.wrap (bn : Int) = (bn : Int) := by rw [IntKind.wrap_u64]; omega
      have HBN := Lib.hid hbn
      have hul : (uintB bn).length ≤ 10 := uintB_len bn 10 (by omega) (Nat.lt_trans (show bn < 2 ^ 64 by omega) (by decide))
      have HUL := Lib.hid hul
      have hsl : (sealB sumB bd).length = bn + 4 := by unfold sealB; rw [List.length_append, sumB_len, hbn]
      have HSL := Lib.hid hsl
      clear hbn eb hul hsl
      go_wp2_with fail
      refine (Varint_ok bn (by omega) wr).mono ?_
      rintro z w2 ⟨v2, rfl, b2, n2, f2⟩
      have B2 := Lib.hid b2
      have N2 := Lib.hid n2
      have F2 := Lib.hid f2
      obtain ⟨a2, c2, rfl, -⟩ := b2.len
      clear b2 n2 f2
      have SE := rSeal_ok (w := w2) (v := .slice ba bn bc) (l := bd) (Vec.rd (f := Go.Proofs.YtkbenkldfehhlaaGreatDoor.u8) (by rw [HBN.out]; exact HB.out.nw N2.out)) (by rw [HBN.out]; omega)
      generalize sealB sumB bd = sb at SE HFR HSL
      have SE := Lib.hid SE
      go_wp2_with fail
      refine SE.out.mono ?_
      rintro z w3 ⟨v3, rfl, b3, n3, f3⟩
      have B3 := Lib.hid b3
      have N3 := Lib.hid n3
      have F3 := Lib.hid f3
      obtain ⟨a3, c3, rfl, -⟩ := b3.len
      clear b3 n3 f3 SE
      go_wp2_with (at_builtin; refine wpList_append_vec rfl _ _ 79 rfl 5 i0 (.int .u8 0) 1 1 Tryz.underlying79 HI.out HZ0.out HZ1.out HZ2.out rfl (by decide) rfl rfl (B2.out.nw N3.out) B3.out.src (u8s_one _) ?c3 ?c4 ?_)
      case c3 => have := HUL.out; have := HSL.out; simp [maxLen]; omega
      case c4 => have := HUL.out; have := HSL.out; simp; omega
      intro v4 w4 q4 q5 q6
      have HV4 : Hid (Vec 1 w4 v4 fr.length (fr.map Go.Proofs.YtkbenkldfehhlaaGreatDoor.u8)) := Lib.hid (by rw [HFR.out]; simpa using q4)
      have HN4 : Hid (Nw w w4) := Lib.hid (((HW.out.trans N2.out).trans N3.out).trans' q5 (fun k hk e => by have := F2.out k e; have := HW.out.size; omega))
      have HF4 : Hid (∀ g, v4.ownBlock = some g → w.heap.size ≤ g) := Lib.hid (fun g hg => by
        have h1 := HW.out.size
        have h2 := N2.out.size
        have h3 := N3.out.size
        rcases q6 with hf | hf
        · have := F2.out g (hf ▸ hg); omega
        · have := hf g hg; omega)
      obtain ⟨a4, c4, rfl, -⟩ := q4.len
      clear q4 q5 q6
      go_wp2
      exact bodyPost_ret (v := .tuple #[_, .int .i64 0]) (by simp [results, Tryz.results76, go_sem]) rfl ⟨_, rfl, by rw [HFE.out]; exact HV4.out, HN4.out, HF4.out⟩
end Go.Proofs.YtkbenkldfehhlaaGreatDoor

namespace Go.Proofs.YtkbenkldfehhlaaGreatDoor
open Go Go.RowKit Go.Sort
set_option maxRecDepth 100000
set_option maxHeartbeats 3200000
theorem dRight_ok {w : World} {v : Value} {l : List Pc} (hv : Pcs w v l) :
    Calls Tryz.prog 81 #[v] w fun e w' => e = .returned (.bool (rightL l)) ∧ Nw w w' := by
  obtain ⟨a, cap, rfl, hc, hm, hel⟩ := hv.elem
  have HE := Lib.hid hel
  have HO := Lib.hid hv.ok
  clear hel hv
  by_cases h1 : l.length < 1
  · have r : Hid (rightL l = false) := Lib.hid (by unfold rightL; rw [decide_eq_false (by omega)]; rfl)
    go_enter Tryz.func81, Tryz.ntmps81
    go_wp2
    go_ret
    exact ⟨by rw [r.out]; rfl, Nw.refl _⟩
  by_cases h2 : 100 < l.length
  · have r : Hid (rightL l = false) := Lib.hid (by unfold rightL; rw [decide_eq_false (show ¬ l.length ≤ 100 by omega)]; simp)
    go_enter Tryz.func81, Tryz.ntmps81
    go_wp2
    go_ret
    exact ⟨by rw [r.out]; rfl, Nw.refl _⟩
  have R : Hid (rightL l = rightFrom [] 0 l) := Lib.hid (by unfold rightL; rw [decide_eq_true (show 1 ≤ l.length by omega), decide_eq_true (show l.length ≤ 100 by omega)]; rfl)
  obtain ⟨n, hn⟩ : ∃ n, l.length = n := ⟨_, rfl⟩
  have HN := Lib.hid hn
  rw [hn] at h1 h2 hc ⊢
  clear hn
  go_enter Tryz.func81, Tryz.ntmps81
  go_wp2
  go_loopw [3, 4] (fun f i wr => ∃ (k : Nat) (fi : Int), k < n ∧ i = .int .i64 k ∧ f = .int .i64 fi ∧ 0 ≤ fi ∧ fi ≤ 1099511627776 * k ∧ rightFrom [] 0 l = rightFrom ((l.take k).map Pc.name).reverse fi (l.drop k) ∧ Nw w wr) (fun _ i _ => n - (intOf i).toNat)
  case atStart => exact ⟨0, 0, by omega, rfl, rfl, by omega, by omega, rfl, Nw.refl w⟩
  case round =>
    obtain ⟨k, fi, hk, rfl, rfl, hf0, hf1, hr, hw⟩ := hrel
    have HR := Lib.hid hr
    have HW := Lib.hid hw
    clear hr hw
    have hlt := hk
    have hkl : k < l.length := by rw [HN.out]; exact hlt
    obtain ⟨g, o, rfl, hg, c0, c1, c2, c3⟩ := HE.out k hkl
    have hat := rightFrom_at hkl ((l.take k).map Pc.name).reverse fi
    rw [← HR.out] at hat
    have hsn : (l.take (k + 1)).map Pc.name = (l.take k).map Pc.name ++ [l[k].name] := by rw [List.take_succ_eq_append_getElem hkl, List.map_append]; rfl
    have HOK : Hid (l[k] : Pc).Ok := Lib.hid (HO.out _ (List.getElem_mem hkl))
    have HNM : Hid (∀ j, j < k → ∃ nm, ((l.take k).map Pc.name)[j]? = some nm ∧ ∀ W, Nw w W → W.cell? ⟨g, o + j * 4, none⟩ = some (.string ⟨nm.toArray⟩)) := Lib.hid (fun j hj => by
      obtain ⟨g2, o2, he, -, d0, -, -, -⟩ := HE.out j (by omega)
      obtain ⟨rfl, rfl⟩ : g = g2 ∧ o = o2 := by simpa using he
      refine ⟨l[j].name, ?_, fun W hW => hW.cell d0⟩
      rw [List.getElem?_map, List.getElem?_take_of_lt hj, List.getElem?_eq_getElem]; rfl)
    have hNl : ((l.take k).map Pc.name).length = k := by rw [List.length_map, List.length_take]; omega
    have d0 := HW.out.cell c0
    have d1 := HW.out.cell c1
    have d2 := HW.out.cell c2
    have d3 := HW.out.cell c3
    have hg' := Nat.lt_of_lt_of_le hg HW.out.size
    have hkc : k + 1 = l.length ↔ k + 1 = n := by rw [HN.out]
    simp only [hkc] at hat
    generalize (l.take k).map Pc.name = NMS at hat hsn HNM hNl
    generalize hP : (l[k] : Pc) = P at *
    obtain ⟨pn, pf, pc, pd⟩ := P
    simp only at hat hsn d0 d1 d2 d3
    have HAT := Lib.hid hat
    have HSN := Lib.hid hsn
    have HNL := Lib.hid hNl
    clear hat hsn hNl c0 c1 c2 c3 hP hkc
    go_upto_region 7 with fail
    go_cut [5] (fun t wx => t = .pointer (some ⟨wr.heap.size, 0, none⟩) ∧ Nw wr wx ∧ wx.heap[wr.heap.size]? = some (.cells #[.string ⟨pn.toArray⟩, .int .i64 pf, .int .i64 pc, .bool pd] 98 (0, 0)))
    case first =>
      go_wp2_with fail
      go_meet
      case rel => exact ⟨rfl, (Nw.refl wr).alloc _, heap_alloc_new wr _⟩
    case rest =>
      obtain ⟨rfl, n1, b1⟩ := hcut
      have N1 := Lib.hid (HW.out.trans n1)
      have hg2 := Nat.lt_of_lt_of_le hg' n1.size
      have x0 : wc.cell? ⟨wr.heap.size, 0, none⟩ = some (.string ⟨pn.toArray⟩) := by simp [World.cell?, b1]
      have x1 : wc.cell? ⟨wr.heap.size, 1, none⟩ = some (.int .i64 pf) := by simp [World.cell?, b1]
      have x2 : wc.cell? ⟨wr.heap.size, 2, none⟩ = some (.int .i64 pc) := by simp [World.cell?, b1]
      have x3 : wc.cell? ⟨wr.heap.size, 3, none⟩ = some (.bool pd) := by simp [World.cell?, b1]
      clear n1 b1 hg hg' d0 d1 d2 d3
      go_upto_region 8 with fail
      go_cut [44] (fun t wx => t = .bool (!okPiece pn || decide (pf ≠ fi)) ∧ wx = wc)
      case first =>
        go_wp2_with fail
        refine (rRight_ok pn wc HOK.out.name).mono ?_
        rintro e w3 ⟨rfl, rfl⟩
        cases hb : okName pn
        case false =>
          have r : Hid (okPiece pn = false) := Lib.hid (by unfold okPiece; rw [hb]; rfl)
          clear hb
          go_wp2_with fail
          go_meet
          case rel => exact ⟨by rw [r.out]; rfl, rfl⟩
        case true =>
          have HB := Lib.hid hb
          clear hb
          by_cases hp1 : pn = [109, 97, 110, 105, 102, 101, 115, 116]
          · have q1 : (pn == [109, 97, 110, 105, 102, 101, 115, 116]) = true := by simpa using hp1
            have r : Hid (okPiece pn = false) := Lib.hid (by rw [hp1]; decide)
            clear hp1
            go_wp2_with fail
            go_meet
            case rel => exact ⟨by rw [r.out]; rfl, rfl⟩
          have q1 : (pn == [109, 97, 110, 105, 102, 101, 115, 116]) = false := by simpa using hp1
          by_cases hp2 : pn = [109, 97, 110, 105, 102, 101, 115, 116, 46, 110, 101, 119]
          · have q2 : (pn == [109, 97, 110, 105, 102, 101, 115, 116, 46, 110, 101, 119]) = true := by simpa using hp2
            have r : Hid (okPiece pn = false) := Lib.hid (by rw [hp2]; decide)
            clear hp1 hp2
            go_wp2_with fail
            go_meet
            case rel => exact ⟨by rw [r.out]; rfl, rfl⟩
          have q2 : (pn == [109, 97, 110, 105, 102, 101, 115, 116, 46, 110, 101, 119]) = false := by simpa using hp2
          have r : Hid (okPiece pn = true) := Lib.hid (by unfold okPiece; rw [HB.out, decide_eq_true (show pn ≠ manifestS from hp1), decide_eq_true (show pn ≠ nextS from hp2)]; rfl)
          clear hp1 hp2
          by_cases hfe : pf = fi
          · subst hfe
            go_wp2_with fail
            go_meet
            case rel => exact ⟨by rw [r.out]; simp, rfl⟩
          · have q3 : (pf != fi) = true := by simpa using hfe
            go_wp2_with fail
            go_meet
            case rel => exact ⟨by rw [r.out]; simp [hfe], rfl⟩
      case rest =>
        obtain ⟨rfl, rfl⟩ := hcut
        cases hb : (!okPiece pn || decide (pf ≠ fi))
        case true =>
          have r : Hid (rightL l = false) := Lib.hid (by
            rw [R.out, HAT.out]
            rcases Bool.or_eq_true _ _ ▸ hb with h | h
            · rw [show okPiece pn = false by simpa using h]; simp
            · rw [show decide (pf = fi) = false by simpa using h]; simp)
          clear hb
          go_wp2_with fail
          go_ret
          exact ⟨by rw [r.out]; rfl, N1.out⟩
        have HB := Lib.hid hb
        clear hb
        go_upto_region 11 with fail
        go_loopw [6] (fun jv wx => ∃ j : Nat, j ≤ k ∧ jv = .int .i64 j ∧ pn ∉ NMS.take j ∧ Nw wc wx) (fun jv _ => k - (intOf jv).toNat)
        case atStart => exact ⟨0, by omega, rfl, by simp, Nw.refl _⟩
        case round =>
          obtain ⟨j, hj, rfl, hno, n2⟩ := hrel
          have HNO := Lib.hid hno
          have y0 := n2.cell x0
          have y1 := n2.cell x1
          have y2 := n2.cell x2
          have y3 := n2.cell x3
          have N2 := Lib.hid (N1.out.trans n2)
          have hg3 := Nat.lt_of_lt_of_le hg2 n2.size
          have NC := Lib.hid n2
          rename_i wj _
          clear hno n2 x0 x1 x2 x3
          by_cases hjk : j < k
          · obtain ⟨nm, hnm, hcell⟩ := HNM.out j hjk
            have z0 := hcell _ N2.out
            have hjn : j < n := by omega
            have HNMJ := Lib.hid hnm
            have hw : IntKind.i64.wrap ((j : Int) + 1) = ((j + 1 : Nat) : Int) := by rw [← Int.natCast_one, ← Int.natCast_add]; exact IntWalk.i64_in _ (by omega)
            clear hnm hcell
            go_upto_region 13 with fail
            go_region
            go_wp2_with fail
            · rename_i h
              have he : nm = pn := by simpa using h
              have r : Hid (rightL l = false) := Lib.hid (by
                rw [R.out, HAT.out]
                have : pn ∈ NMS := by rw [← he]; exact List.mem_of_getElem? HNMJ.out
                simp [this])
              go_ret
              exact ⟨by rw [r.out]; rfl, N2.out.drew⟩
            · rename_i h
              have he : nm ≠ pn := by simpa using h
              go_roundw
              case rel =>
                refine ⟨j + 1, by omega, by simp, ?_, NC.out.drew⟩
                rw [List.take_add_one, HNMJ.out]
                simp only [List.mem_append, not_or]
                exact ⟨HNO.out, by simpa using fun h => he h.symm⟩
              case measure => simp only [intOf]; omega
          · have hjn : j = k := by omega
            subst hjn
            have hfree : Hid (pn ∉ NMS) := Lib.hid (by have := HNO.out; rwa [List.take_of_length_le (by rw [HNL.out]; exact Nat.le_refl _)] at this)
            have hok : Hid (okPiece pn = true ∧ pf = fi) := Lib.hid (by
              have := HB.out
              rw [Bool.or_eq_false_iff] at this
              exact ⟨by simpa using this.1, by simpa using this.2⟩)
            have hin : pn ∉ NMS.reverse := by simpa using hfree.out
            have hat := HAT.out
            rw [hok.out.1, decide_eq_true hok.out.2, decide_eq_false hin] at hat
            have HAT2 := Lib.hid hat
            have HSN2 := Lib.hid HSN.out
            clear hat hin HAT HR HB HNO HNM HSN HNL
            by_cases hla : j + 1 = n
            · have hlb : ((j : Int) == (n : Int) - 1) = true := by simp; omega
              have hlb2 : ((j : Int) = (n : Int) - 1) := by omega
              by_cases hp0 : pc = 0
              · subst hp0
                cases pd
                case true =>
                  have r : Hid (rightL l = false) := Lib.hid (by rw [R.out, HAT2.out]; simp [hla])
                  go_wp2_with fail
                  go_ret
                  exact ⟨by rw [r.out]; rfl, N2.out⟩
                case false =>
                  have r : Hid (rightL l = true) := Lib.hid (by rw [R.out, HAT2.out, List.drop_eq_nil_of_le (by rw [HN.out]; omega)]; simp [hla, rightFrom])
                  go_wp2_with fail
                  go_ret
                  exact ⟨by rw [r.out]; rfl, N2.out⟩
              · have r : Hid (rightL l = false) := Lib.hid (by rw [R.out, HAT2.out]; simp [hla, hp0])
                have hpb : (pc == 0) = false := by simpa using hp0
                go_wp2_with fail
                go_ret
                exact ⟨by rw [r.out]; rfl, N2.out⟩
            · have hlb : ((j : Int) == (n : Int) - 1) = false := by simp; omega
              have hlb2 : ¬ ((j : Int) = (n : Int) - 1) := by omega
              by_cases hp1 : pc < 1
              · have r : Hid (rightL l = false) := Lib.hid (by rw [R.out, HAT2.out, decide_eq_false (show ¬ 1 ≤ pc by omega)]; simp [hla])
                go_wp2_with fail
                go_ret
                exact ⟨by rw [r.out]; rfl, N2.out⟩
              by_cases hp2 : 1099511627776 < pc
              · have r : Hid (rightL l = false) := Lib.hid (by rw [R.out, HAT2.out, decide_eq_false (show ¬ pc ≤ 1099511627776 by omega)]; simp [hla])
                go_wp2_with fail
                go_ret
                exact ⟨by rw [r.out]; rfl, N2.out⟩
              have hw : IntKind.i64.wrap ((j : Int) + 1) = ((j + 1 : Nat) : Int) := by rw [← Int.natCast_one, ← Int.natCast_add]; exact IntWalk.i64_in _ (by omega)
              have hw2 : IntKind.i64.wrap (fi + pc) = fi + pc := IntWalk.i64_in _ (by omega)
              have hn : Hid (rightFrom [] 0 l = rightFrom (pn :: NMS.reverse) (fi + pc) (l.drop (j + 1))) := Lib.hid (by
                rw [HAT2.out, if_neg hla, decide_eq_true (show 1 ≤ pc by omega), decide_eq_true (show pc ≤ 1099511627776 by omega)]; simp)
              have HN2 := Lib.hid hn
              clear hn
              go_wp2_with fail
              go_roundw
              case rel =>
                refine ⟨j + 1, fi + pc, by omega, by simp, rfl, by omega, by omega, ?_, N2.out⟩
                rw [HN2.out.out, HSN2.out, List.reverse_append]; rfl
              case measure => simp only [intOf]; omega
end Go.Proofs.YtkbenkldfehhlaaGreatDoor
