/-
  Texts merged by a program of this claim's: EventB, LogA, Segs, LogB.
-/
import Derived.Test.YtkbenkldfehhlaaGreatDoorM11
import Derived.Test.YtkbenkldfehhlaaGreatDoorM6
import Derived.Test.YtkbenkldfehhlaaGreatDoorM8
import Derived.Lib.ItoaLen
namespace Go.Proofs.YtkbenkldfehhlaaGreatDoor
open Go Go.RowKit Go.Sort
set_option maxRecDepth 100000
set_option maxHeartbeats 1600000
structure Evs (w : World) (v : Value) (l : List Ev) : Prop where
  src : SrcV 5 w v l.length (l.flatMap evV)
  ok : ∀ e ∈ l, e.Ok
theorem flat_cell : ∀ (l : List Ev) (i : Nat) (h : i < l.length) (j : Nat) (_hj : j < 5), (l.flatMap evV)[i * 5 + j]? = (evV l[i])[j]?
  | e :: l, 0, _, j, hj => by
    rw [List.flatMap_cons, Nat.zero_mul, Nat.zero_add, List.getElem?_append_left (by simpa [evV] using hj)]; rfl
  | e :: l, i + 1, h, j, hj => by
    have ih := flat_cell l i (by simpa using h) j hj
    rw [List.flatMap_cons, List.getElem?_append_right (by simp [evV]; omega), show (i + 1) * 5 + j - (evV e).length = i * 5 + j by simp [evV]; omega, ih]
    rfl
theorem Evs.nw {w w' : World} {v : Value} {l : List Ev} (h : Evs w v l) (hw : Nw w w') : Evs w' v l := ⟨h.src.nw hw, h.ok⟩
theorem Evs.elem {w : World} {v : Value} {l : List Ev} (h : Evs w v l) : ∃ a cap, v = .slice a l.length cap ∧ l.length ≤ maxLen ∧ ∀ i (hi : i < l.length), ∃ g o, a = some ⟨g, o, none⟩ ∧ g < w.heap.size ∧
    w.cell? ⟨g, o + i * 5, none⟩ = some (.int .i64 l[i].thread) ∧ w.cell? ⟨g, o + i * 5 + 1, none⟩ = some (.int .u8 l[i].op.toNat) ∧ w.cell? ⟨g, o + i * 5 + 2, none⟩ = some (.int .i64 l[i].obj) ∧
    w.cell? ⟨g, o + i * 5 + 3, none⟩ = some (.int .i64 l[i].a) ∧ w.cell? ⟨g, o + i * 5 + 4, none⟩ = some (.int .i64 l[i].b) := by
  obtain ⟨⟨h0, ⟨a, rfl, hn⟩ | ⟨g, o, cap, rfl, h1, h2, h3, h4⟩⟩, -⟩ := h
  · exact ⟨a, 0, by rw [hn], by simp [hn], fun i hi => by omega⟩
  · refine ⟨_, cap, rfl, by omega, fun i hi => ⟨g, o, rfl, h3, ?_⟩⟩
    have key : ∀ j (hj : j < 5), w.cell? ⟨g, o + i * 5 + j, none⟩ = (evV l[i])[j]? := fun j hj => by
      have e := flat_cell l i hi j hj
      have hlt : i * 5 + j < (l.flatMap evV).length := by rw [h0]; omega
      have := h4 (i * 5 + j) hlt
      rw [← Nat.add_assoc] at this
      rw [this, ← e, List.getElem?_eq_getElem hlt]
    refine ⟨key 0 (by omega), key 1 (by omega), key 2 (by omega), key 3 (by omega), key 4 (by omega)⟩

theorem heap_set5 {w1 : World} {p : Nat} {a0 b0 c0 d0 e0 : Value} {t : TypeId} (h : w1.heap[p]? = some (.cells #[a0, b0, c0, d0, e0] t (0, 0))) (a b c d e : Value) :
    (((((w1.setCell ⟨p, 0, none⟩ a).setCell ⟨p, 1, none⟩ b).setCell ⟨p, 2, none⟩ c).setCell ⟨p, 3, none⟩ d).setCell ⟨p, 4, none⟩ e).heap[p]? = some (.cells #[a, b, c, d, e] t (0, 0)) := by
  have := heap_setCell_at (heap_setCell_at (heap_setCell_at (heap_setCell_at (heap_setCell_at h 0 a) 1 b) 2 c) 3 d) 4 e
  simpa using this
theorem only_set5 (w1 : World) (p : Nat) (a b c d e : Value) : Only (fun k => k = p) w1 (((((w1.setCell ⟨p, 0, none⟩ a).setCell ⟨p, 1, none⟩ b).setCell ⟨p, 2, none⟩ c).setCell ⟨p, 3, none⟩ d).setCell ⟨p, 4, none⟩ e) :=
by
  refine Only.setCell (S := fun k => k = p) (p := ⟨p, 4, none⟩) ?_ (fun _ => rfl) e
  refine Only.setCell (S := fun k => k = p) (p := ⟨p, 3, none⟩) ?_ (fun _ => rfl) d
  refine Only.setCell (S := fun k => k = p) (p := ⟨p, 2, none⟩) ?_ (fun _ => rfl) c
  refine Only.setCell (S := fun k => k = p) (p := ⟨p, 1, none⟩) ?_ (fun _ => rfl) b
  exact Only.setCell (S := fun k => k = p) (p := ⟨p, 0, none⟩) (Only.refl w1) (fun _ => rfl) a
theorem evV_cells {w : World} {p : Nat} {h : Ev} {t : TypeId} (hb : w.heap[p]? = some (.cells (evV h).toArray t (0, 0))) :
    w.cell? ⟨p, 0, none⟩ = some (.int .i64 h.thread) ∧ w.cell? ⟨p, 1, none⟩ = some (.int .u8 h.op.toNat) ∧ w.cell? ⟨p, 2, none⟩ = some (.int .i64 h.obj) ∧ w.cell? ⟨p, 3, none⟩ = some (.int .i64 h.a) ∧ w.cell? ⟨p, 4, none⟩ = some (.int .i64 h.b) ∧
    ∀ i, w.frozen? ⟨p, i, none⟩ = false := by
  simp [World.cell?, World.frozen?, hb, evV]
theorem lastE_ok {h : Ev} {l : List Ev} (hh : h.Ok) (hl : ∀ e ∈ l, e.Ok) : (lastE h l).Ok := by
  unfold lastE
  rw [List.getLastD_eq_getLast?]
  cases hc : l.getLast? with
  | none => exact hh
  | some e => exact hl e (List.mem_of_getLast? hc)
theorem zero_ok : Ev.zero.Ok := ⟨by unfold in64 Ev.zero; simp, by unfold in64 Ev.zero; simp, by unfold in64 Ev.zero; simp, by unfold in64 Ev.zero; simp⟩

theorem Frame_ok {w : World} {v : Value} {l : List Ev} (hv : Evs w v l) (h0 : l.length ≠ 0) (h1 : l.length ≤ 4096) :
    Calls Tryz.prog 72 #[v] w fun e w' => ∃ v', e = .returned (.tuple #[v', .int .i64 0]) ∧ Vec 1 w' v' (frmB l).length ((frmB l).map u8) ∧ Nw w w' ∧ ∀ g, v'.ownBlock = some g → w.heap.size ≤ g := by
  obtain ⟨a, cap, rfl, -, hel⟩ := hv.elem
  have HE := Lib.hid hel
  have HOK := Lib.hid hv.ok
  clear hel hv
  obtain ⟨n, hn⟩ : ∃ n, l.length = n := ⟨_, rfl⟩
  rw [hn] at h0 h1 ⊢
  have HN := Lib.hid hn
  clear hn
  go_enter Tryz.func72, Tryz.ntmps72
  go_wp2_with fail
  refine (Uint_ok (l := []) Vec.nil n (by omega) (by simp)).mono ?_
  rintro e w1 ⟨v1, rfl, q1, q2, q3⟩
  have G1 : Hid (Vec 1 w1 v1 (uintB n).length ((uintB n).map u8) ∧ Nw w w1 ∧ ∀ g, v1.ownBlock = some g → w.heap.size ≤ g ∧ g < w1.heap.size) := Lib.hid (by
    refine ⟨by simpa using q1, q2.mono (fun k _ hk => by cases hk), fun g hg => ⟨?_, q1.lt g hg⟩⟩
    rcases q3 with h | h
    · rw [h] at hg; cases hg
    · exact h g hg)
  clear q1 q2 q3
  go_wp2
  go_loopw [4, 22] (fun b i wr => ∃ (k : Nat), k ≤ n ∧ i = .int .i64 k ∧ Vec 1 wr b (uintB n ++ putL Ev.zero (l.take k)).length ((uintB n ++ putL Ev.zero (l.take k)).map u8) ∧ Nw w wr ∧ (∀ g, b.ownBlock = some g → w.heap.size ≤ g ∧ g ≠ w1.heap.size) ∧
    wr.heap[w1.heap.size]? = some (.cells (evV (lastE Ev.zero (l.take k))).toArray 87 (0, 0))) (fun _ i _ => n - (intOf i).toNat)
  case atStart =>
    refine ⟨0, by omega, rfl, ?_, G1.out.2.1.alloc _, fun g hg => ?_, ?_⟩
    · have := G1.out.1.nw ((Nw.refl w1).alloc (.cells #[.int .i64 0, .int .u8 0, .int .i64 0, .int .i64 0, .int .i64 0] 87 (0, 0)))
      simpa [putL] using this
    · have := G1.out.2.2 g hg; omega
    · simpa [lastE, evV, Ev.zero] using heap_alloc_new w1 (.cells #[.int .i64 0, .int .u8 0, .int .i64 0, .int .i64 0, .int .i64 0] 87 (0, 0))
  case round =>
    obtain ⟨k, hk, rfl, hb, hw, hf, hbox⟩ := hrel
    have hlen : (uintB n ++ putL Ev.zero (l.take k)).length ≤ 41 * k + 10 := by
      have h1 := putL_len (l.take k) Ev.zero
      have h2 := uintB_len n 10 (by omega) (Nat.lt_trans (show n < 2 ^ 64 by omega) (by decide))
      rw [List.length_append]
      have h3 : (l.take k).length ≤ k := by simp; omega
      omega
    by_cases hlt : k < n
    · have hkl : k < l.length := by rw [HN.out]; exact hlt
      obtain ⟨g, o, rfl, hg, c0, c1, c2, c3, c4⟩ := HE.out k hkl
      have d0 := hw.cell c0
      have d1 := hw.cell c1
      have d2 := hw.cell c2
      have d3 := hw.cell c3
      have d4 := hw.cell c4
      have hg' := Nat.lt_of_lt_of_le hg hw.size
      have hsnoc : l.take (k + 1) = l.take k ++ [l[k]] := List.take_succ_eq_append_getElem hkl
      have HB1 : Hid (uintB n ++ putL Ev.zero (l.take (k + 1)) = (uintB n ++ putL Ev.zero (l.take k)) ++ putE (lastE Ev.zero (l.take k)) l[k]) := Lib.hid (by rw [hsnoc, putL_snoc, List.append_assoc])
      have HB2 : Hid (lastE Ev.zero (l.take (k + 1)) = l[k]) := Lib.hid (by rw [hsnoc]; unfold lastE; rw [List.getLastD_eq_getLast?, List.getLast?_append]; rfl)
      have HO1 : Hid (lastE Ev.zero (l.take k)).Ok := Lib.hid (lastE_ok zero_ok fun e he => HOK.out e (List.mem_of_mem_take he))
      have HO2 : Hid (l[k] : Ev).Ok := Lib.hid (HOK.out _ (List.getElem_mem hkl))
      obtain ⟨b2, hb2⟩ : ∃ b2, b2 = uintB n ++ putL Ev.zero (l.take (k + 1)) := ⟨_, rfl⟩
      have HBX := Lib.hid hb2
      rw [← hb2] at HB1
      clear hb2
      generalize uintB n ++ putL Ev.zero (l.take k) = b1 at hb hlen HB1
      generalize lastE Ev.zero (l.take k) = h1 at hbox HB1 HO1
      obtain ⟨x, hx⟩ : ∃ x, x = lastE Ev.zero (l.take (k + 1)) := ⟨_, rfl⟩
      have HLX := Lib.hid hx
      have hx2 : (l[k] : Ev) = x := by rw [hx, HB2.out]
      rw [hx2] at HB1 HO2 d0 d1 d2 d3 d4
      clear HB2 hx2 hx c0 c1 c2 c3 c4 hsnoc hkl hg
      obtain ⟨x0, x1, x2, x3, x4, -⟩ := evV_cells hbox
      have hbl : w1.heap.size < wr.heap.size := lt_of_block hbox
      have hown := hb.lt
      obtain ⟨sa, sc, rfl, -⟩ := hb.len
      have V1 := Lib.hid (And.intro hb (And.intro hw (And.intro hf hbox)))
      have OW := Lib.hid hown
      clear hb hw hf hbox hown
      have LN := Lib.hid hlen
      clear hlen
      go_wp2_with fail
      have hn1 := (Nw.refl wr).alloc (.cells (evV x).toArray 87 (0, 0))
      refine (Put_ok (V1.out.1.nw hn1) h1 x HO1.out HO2.out (by have := LN.out; omega)).mono ?_
      rintro e w2 ⟨v2, rfl, q1, q2, q3⟩
      have hM : w2.heap[wr.heap.size]? = some (.cells (evV x).toArray 87 (0, 0)) := q2.at_ (heap_alloc_new wr _) (fun hc => by have := OW.out _ hc; omega)
      have hN0 : w2.heap[w1.heap.size]? = some (.cells (evV h1).toArray 87 (0, 0)) := q2.at_ (hn1.at_ V1.out.2.2.2) (fun hc => (V1.out.2.2.1 _ hc).2 rfl)
      obtain ⟨y0, y1, y2, y3, y4, -⟩ := evV_cells hM
      obtain ⟨z0, z1, z2, z3, z4, zf⟩ := evV_cells hN0
      have f0 := zf 0
      have f1 := zf 1
      have f2 := zf 2
      have f3 := zf 3
      have f4 := zf 4
      obtain ⟨ta, tc, rfl, -⟩ := q1.len
      have Q := Lib.hid (And.intro q1 (And.intro q2 q3))
      have HN0 := Lib.hid hN0
      clear q1 q2 q3 hM hN0 zf x0 x1 x2 x3 x4 d0 d1 d2 d3 d4
      have HB1' := HB1.out
      rw [← HB1'] at Q
      clear HB1'
      have hq : (b1 ++ putE h1 x).length = b2.length := by rw [HB1.out]
      rw [hq]
      clear hq
      go_wp2
      go_roundw
      case rel =>
        have hs5 := only_set5 w2 w1.heap.size (.int .i64 x.thread) (.int .u8 x.op.toNat) (.int .i64 x.obj) (.int .i64 x.a) (.int .i64 x.b)
        have hb5 := heap_set5 (w1 := w2) (p := w1.heap.size) (t := 87) HN0.out (.int .i64 x.thread) (.int .u8 x.op.toNat) (.int .i64 x.obj) (.int .i64 x.a) (.int .i64 x.b)
        have hw1 : Nw w w1 := G1.out.2.1
        have hfr : ∀ g, (Value.slice ta b2.length tc).ownBlock = some g → w.heap.size ≤ g ∧ g ≠ w1.heap.size := fun g hg => by
          rcases Q.out.2.2 with h | h
          · exact V1.out.2.2.1 g (h ▸ hg)
          · have h1 := h g hg
            have h2 := hn1.size
            have h3 := V1.out.2.1.size
            refine ⟨by omega, fun e => ?_⟩
            simp only [World.size_alloc] at h1
            omega
        refine ⟨k + 1, by omega, by go_num, ?_, ?_, hfr, ?_⟩
        · have := Q.out.1.keep (w' := (((((w2.setCell ⟨w1.heap.size, 0, none⟩ (.int .i64 x.thread)).setCell ⟨w1.heap.size, 1, none⟩ (.int .u8 x.op.toNat)).setCell ⟨w1.heap.size, 2, none⟩ (.int .i64 x.obj)).setCell ⟨w1.heap.size, 3, none⟩ (.int .i64 x.a)).setCell ⟨w1.heap.size, 4, none⟩ (.int .i64 x.b))) hs5.size (fun g hg => hs5.block g (Q.out.1.lt g hg) (hfr g hg).2)
          exact HBX.out ▸ this
        · have h1 : Nw w w2 := (V1.out.2.1.trans hn1).trans' Q.out.2.1 (fun k hk hc => by have := (V1.out.2.2.1 k hc).1; omega)
          exact h1.trans' hs5 (fun k hk hc => by have := hw1.size; omega)
        · exact HLX.out ▸ hb5
      case measure => simp [intOf]; omega
    · obtain rfl : k = n := by omega
      have hall : l.take k = l := by rw [← HN.out]; exact List.take_length
      rw [hall] at hb hlen
      have HBD : Hid (uintB k ++ putL Ev.zero l = bodyB l) := Lib.hid (by unfold bodyB; rw [HN.out])
      rw [HBD.out] at hb hlen
      obtain ⟨sa, sc, rfl, -⟩ := hb.len
      have B := Lib.hid (And.intro hb (And.intro hw hf))
      have OW := Lib.hid hb.lt
      have LN := Lib.hid hlen
      have hm : ((bodyB l).length : Int) % 18446744073709551616 = (bodyB l).length := by omega
      have HFR : Hid (frmB l = uintB (bodyB l).length ++ sealB sumB (bodyB l)) := Lib.hid rfl
      clear hb hw hf hbox hlen hall HBD
      generalize bodyB l = bd at B OW LN hm HFR
      go_wp2_with fail
      refine (Uint_ok (l := []) Vec.nil bd.length (by have := LN.out; omega) (by simp)).mono ?_
      rintro e w2 ⟨v2, rfl, q1, q2, q3⟩
      have n2 : Nw wr w2 := q2.mono (fun k _ hk => by cases hk)
      have f2 : ∀ g, v2.ownBlock = some g → wr.heap.size ≤ g := fun g hg => by
        rcases q3 with h | h
        · rw [h] at hg; cases hg
        · exact h g hg
      simp only [List.nil_append] at q1
      have HU : Hid ((uintB bd.length).length ≤ 10) := Lib.hid (uintB_len _ 10 (by omega) (Nat.lt_trans (show bd.length < 2 ^ 64 by have := LN.out; omega) (by decide)))
      generalize uintB bd.length = ub at q1 HU HFR
      obtain ⟨ta, tc, rfl, -⟩ := q1.len
      have Q := Lib.hid (And.intro q1 (And.intro n2 f2))
      have QL := Lib.hid q1.lt
      clear q1 q2 q3 n2 f2
      go_wp2_with fail
      refine (Seal_ok (B.out.1.rd.nw Q.out.2.1) (by have := LN.out; omega)).mono ?_
      rintro e w3 ⟨v3, rfl, q1, q2, q3⟩
      have HS : Hid ((sealB sumB bd).length = bd.length + 4) := Lib.hid (by simp [sealB, sumB_len])
      generalize sealB sumB bd = sb at q1 HS HFR
      obtain ⟨ya, yc, rfl, -⟩ := q1.len
      have P := Lib.hid (And.intro q1 (And.intro q2 q3))
      clear q1 q2 q3
      have V3 := Lib.hid (Q.out.1.nw P.out.2.1)
      have S3 := Lib.hid P.out.1.src
      obtain ⟨i0, hi, hz0, hz1, hz2⟩ := info_parts infoU8
      have HI := Lib.hid hi
      have HZ0 := Lib.hid hz0
      have HZ1 := Lib.hid hz1
      have HZ2 := Lib.hid hz2
      clear hi hz0 hz1 hz2
      go_wp2_with (at_builtin; refine wpList_append_vec rfl _ _ 79 rfl 5 i0 (.int .u8 0) 1 1 Tryz.underlying79 HI.out HZ0.out HZ1.out HZ2.out rfl (by decide) rfl rfl V3.out S3.out ?c1 ?c2 ?c3 ?_)
      case c1 => exact fun u hu => by obtain ⟨y, _, rfl⟩ := List.mem_map.1 hu; exact u8_cell y
      case c2 => have := HU.out; have := HS.out; have := LN.out; unfold maxLen; omega
      case c3 => have := HU.out; have := HS.out; have := LN.out; omega
      intro v4 w4 q1 q2 q3
      obtain ⟨ma, mc, rfl, -⟩ := q1.len
      have R := Lib.hid (And.intro q1 (And.intro q2 q3))
      clear q1 q2 q3
      go_wp2
      refine bodyPost_ret (v := .tuple #[.slice ma (ub.length + sb.length) mc, .int .i64 0]) (by simp [results, Tryz.results72, go_sem]) rfl ⟨_, rfl, ?_, ?_, ?_⟩
      · rw [HFR.out, List.length_append, List.map_append]; exact R.out.1
      · exact ((B.out.2.1.trans Q.out.2.1).trans P.out.2.1).trans' R.out.2.1 (fun j hj hc => by have h1 := Q.out.2.2 j hc; have h2 := B.out.2.1.size; omega)
      · intro g hg
        have s1 := B.out.2.1.size
        have s2 := Q.out.2.1.size
        have s3 := P.out.2.1.size
        rcases R.out.2.2 with h | h
        · have := Q.out.2.2 g (h ▸ hg); omega
        · have := h g hg; omega
end Go.Proofs.YtkbenkldfehhlaaGreatDoor

namespace Go.Proofs.YtkbenkldfehhlaaGreatDoor
open Go Go.RowKit Go.Sort
set_option maxRecDepth 100000
set_option maxHeartbeats 1600000
theorem vec_lit (w : World) (t : TypeId) (k n : Nat) (cs : List Value) (C : Array Value) (fz : Nat × Nat) (hC : C = cs.toArray) (hk : cs.length = n * k) (hm : n ≤ maxLen) (hf : ∀ j, j < n * k → ¬ (fz.1 ≤ j ∧ j < fz.2)) :
    Vec k (w.alloc (.cells C t fz)) (.slice (some ⟨w.heap.size, 0, none⟩) n n) n cs := by
  subst hC
  have hb : (w.alloc (.cells cs.toArray t fz)).heap[w.heap.size]? = some (.cells cs.toArray t fz) := heap_alloc_new w _
  refine ⟨hk, .inr ⟨w.heap.size, 0, n, rfl, Nat.le_refl _, hm, by simp, fun j hj => ?_, fun j hj => ?_, fun j hj => ?_⟩⟩
  · have : j < cs.length := by omega
    unfold World.cell?
    rw [show (⟨w.heap.size, 0 + j, none⟩ : Addr).block = w.heap.size from rfl, hb]
    simp [this]
  · have := hf j hj
    unfold World.frozen?
    rw [show (⟨w.heap.size, 0 + j, none⟩ : Addr).block = w.heap.size from rfl, hb]
    obtain ⟨lo, hi⟩ := fz
    simp only [Nat.zero_add] at this ⊢
    rw [Bool.and_eq_false_iff]
    by_cases h : lo ≤ j
    · right; simp; omega
    · left; simp; omega
  · unfold World.cell?
    rw [show (⟨w.heap.size, 0 + j, none⟩ : Addr).block = w.heap.size from rfl, hb]
    simp [hj]
def NewE (w : World) (l : List UInt8) (e : Ending) (w' : World) : Prop := ∃ v', e = .returned (.tuple #[v', .int .i64 0]) ∧ Vec 1 w' v' l.length (l.map u8) ∧ Nw w w' ∧ ∀ g, v'.ownBlock = some g → w.heap.size ≤ g

theorem Head_ok (n : Nat) (hn : n ≤ 4611686018427387904) (w : World) :
    Calls Tryz.prog 110 #[.int .i64 n] w (NewE w (headB n)) := by
  have kc := fun (w : World) (C : Array Value) (n c : Nat) => Go.Lib.run_convert_bytes_const (P := Tryz.prog) w 79 5 C n c Tryz.underlying79 Tryz.underlying5
  have hm : ((n : Nat) : Int) % 18446744073709551616 = n := by omega
  have V0 := Lib.hid (vec_lit w 5 1 4 (([65, 77, 83, 49] : List UInt8).map u8) _ (4, 5) rfl rfl (by decide) (fun j hj => by omega))
  go_enter Tryz.func110, Tryz.ntmps110
  go_wp2_with fail
  refine (Uint_ok (l := [65, 77, 83, 49]) V0.out n (by omega) (by decide)).mono ?_
  rintro e w1 ⟨v1, rfl, q1, q2, q3⟩
  have HH : Hid (headB n = sealB sumB ([65, 77, 83, 49] ++ uintB n)) := Lib.hid rfl
  have HL : Hid (([65, 77, 83, 49] ++ uintB n).length ≤ 14) := Lib.hid (by
    have := uintB_len n 10 (by omega) (Nat.lt_trans (show n < 2 ^ 64 by omega) (by decide))
    simp only [List.length_append, List.length_cons, List.length_nil]; omega)
  have N1 : Hid (Nw w w1) := Lib.hid (((Nw.refl w).alloc _).trans' q2 (fun k hk hc => by
    have e : w.heap.size = k := by simpa [Value.ownBlock] using hc
    omega))
  generalize [65, 77, 83, 49] ++ uintB n = l1 at *
  obtain ⟨xa, xc, rfl, -⟩ := q1.len
  have Q := Lib.hid q1
  clear q1 q2 q3
  go_wp2_with fail
  refine (Seal_ok Q.out.rd (by have := HL.out; omega)).mono ?_
  rintro e w2 ⟨v2, rfl, q1, q2, q3⟩
  rw [← HH.out] at q1
  obtain ⟨ya, yc, rfl, -⟩ := q1.len
  have P := Lib.hid (And.intro q1 (And.intro q2 q3))
  clear q1 q2 q3
  go_wp2
  refine bodyPost_ret (v := .tuple #[.slice ya (headB n).length yc, .int .i64 0]) (by simp [results, Tryz.results110, go_sem]) rfl ⟨_, rfl, P.out.1, N1.out.trans P.out.2.1, fun g hg => Nat.le_trans N1.out.size (P.out.2.2 g hg)⟩

theorem named_ok (s : Str) (w : World) (hs : s.length ≤ 9223372036854775807) :
    Calls Tryz.prog 134 #[.string ⟨s.toArray⟩] w fun e w' => e = .returned (.bool (okPiece s)) ∧ Nw w w' := by
  have ht := Lib.hid (trim_calls s w hs)
  have hc := Lib.hid (trim_nil s)
  by_cases h0 : s = []
  · subst h0
    go_enter Tryz.func134, Tryz.ntmps134
    go_wp2
    go_ret
    exact ⟨rfl, Nw.refl _⟩
  by_cases h1 : s.length ≤ 40
  · by_cases h2 : s = manifestS
    · subst h2
      unfold manifestS
      go_enter Tryz.func134, Tryz.ntmps134
      go_wp2
      go_ret
      exact ⟨rfl, Nw.refl _⟩
    by_cases h3 : s = nextS
    · subst h3
      unfold nextS
      go_enter Tryz.func134, Tryz.ntmps134
      go_wp2
      go_ret
      exact ⟨rfl, Nw.refl _⟩
    have hR : Hid (okPiece s = s.all okChar) := by
      show okPiece s = _
      have hne : s.isEmpty = false := by simpa using h0
      simp [okPiece, okName, hne, h1, h2, h3]
    have g0 : (s == []) = false := by simpa using h0
    have g2 : (s == [109, 97, 110, 105, 102, 101, 115, 116]) = false := beq_eq_false_iff_ne.2 h2
    have g3 : (s == [109, 97, 110, 105, 102, 101, 115, 116, 46, 110, 101, 119]) = false := beq_eq_false_iff_ne.2 h3
    have b0 : (s != []) = true := by simp [bne, g0]
    have b2 : (s != [109, 97, 110, 105, 102, 101, 115, 116]) = true := by simp [bne, g2]
    have b3 : (s != [109, 97, 110, 105, 102, 101, 115, 116, 46, 110, 101, 119]) = true := by simp [bne, g3]
    go_enter Tryz.func134, Tryz.ntmps134
    go_wp2_with (refine ht.out.mono ?_)
    rintro e w1 ⟨rfl, hw⟩
    have hc' := hc.out
    go_wp2
    go_ret
    exact ⟨by rw [hR.out]; rfl, hw⟩
  · have hR : Hid (okPiece s = false) := by show okPiece s = false; simp [okPiece, okName, h1]
    have h1' : 40 < s.length := by omega
    go_enter Tryz.func134, Tryz.ntmps134
    go_wp2
    go_ret
    exact ⟨by rw [hR.out]; rfl, Nw.refl _⟩

theorem sized_ok (n : Int) {ok : Bool} (hok : ok = decide (64 ≤ n ∧ n ≤ 16777216)) (w : World) : Calls Tryz.prog 66 #[.int .i64 n] w fun e w' => e = .returned (.bool ok) ∧ w = w' := by
  have r := Lib.hid hok
  clear hok
  by_cases h1 : 64 ≤ n
  · go_enter Tryz.func66, Tryz.ntmps66
    go_wp2
    go_ret
    exact ⟨retB (by rw [r.out]; simp [h1]), rfl⟩
  · go_enter Tryz.func66, Tryz.ntmps66
    go_wp2
    go_ret
    exact ⟨retB (by rw [r.out]; simp; omega), rfl⟩

section
variable {X : Nat → Prop} {w0 w : World} {b : Nat} {d : Dsk}
theorem gone_ok (h : HasX X w0 w b d) (n : Str) :
    Calls Tryz.prog 113 #[.pointer (some ⟨b, 0, none⟩), .string ⟨n.toArray⟩] w (DidX X w0 w b (d.gone n).1 (.int .i64 (d.gone n).2)) := by
  have H := Lib.hid h
  clear h
  obtain ⟨d', x, hr⟩ : ∃ d' x, d.remove n = (d', x) := ⟨_, _, rfl⟩
  have R : Hid (d.gone n = (d', if x = 13 then 0 else x)) := Lib.hid (by unfold Dsk.gone; rw [hr])
  rw [R.out]
  by_cases hx : x = 13
  · subst hx
    go_enter Tryz.func113, Tryz.ntmps113
    go_wp2_with fail
    refine (H.out.remove n hr).mono ?_
    rintro e w1 ⟨rfl, q1, q2⟩
    go_wp2
    go_ret
    exact ⟨rfl, q1, q2⟩
  · have hb : (x != 13) = true := by simpa using hx
    have e : Hid ((if x = 13 then 0 else x) = x) := Lib.hid (if_neg hx)
    rw [e.out]
    go_enter Tryz.func113, Tryz.ntmps113
    go_wp2_with fail
    refine (H.out.remove n hr).mono ?_
    rintro e w1 ⟨rfl, q1, q2⟩
    go_wp2
    go_ret
    exact ⟨rfl, q1, q2⟩
end
end Go.Proofs.YtkbenkldfehhlaaGreatDoor

namespace Go.Proofs.YtkbenkldfehhlaaGreatDoor
open Go
def valD (l : List UInt8) : Nat := l.foldl (fun a c => a * 10 + (c.toNat - 48)) 0
theorem valD_dec (u : Nat) : valD (Lib.decDigits u) = u := by
  induction u using Nat.strongRecOn with
  | _ u ih =>
    rw [Lib.decDigits]
    split
    · rename_i h
      simp only [valD, List.foldl_cons, List.foldl_nil, UInt8.toNat_ofNat']
      omega
    · rename_i h
      have := ih (u / 10) (by omega)
      simp only [valD, List.foldl_append, List.foldl_cons, List.foldl_nil, UInt8.toNat_ofNat'] at this ⊢
      rw [this]
      omega
theorem dec_char (u : Nat) : ∀ c ∈ Lib.decDigits u, okChar c = true := by
  induction u using Nat.strongRecOn with
  | _ u ih =>
    have key : ∀ d, d < 10 → okChar (UInt8.ofNat (48 + d)) = true := by decide
    rw [Lib.decDigits]
    split
    · rename_i h
      intro c hc
      rw [List.mem_singleton] at hc
      subst hc
      exact key u h
    · rename_i h
      intro c hc
      rcases List.mem_append.1 hc with hc | hc
      · exact ih (u / 10) (by omega) c hc
      · rw [List.mem_singleton] at hc
        subst hc
        exact key _ (by omega)
theorem segName_inj {a b : Nat} (h : segName a = segName b) : a = b := by
  unfold segName at h
  rw [← valD_dec a, ← valD_dec b, (List.cons.inj h).2]
theorem segName_ok {n : Nat} (h : n < 2 ^ 64) : okPiece (segName n) = true := by
  have hl := Lib.nDigits_le20 n (by omega)
  have hd := Lib.decDigits_length n
  have h1 : okName (segName n) = true := by
    unfold okName segName
    simp only [List.isEmpty_cons, Bool.not_false, Bool.true_and, List.length_cons, List.all_cons, Bool.and_eq_true, decide_eq_true_eq]
    refine ⟨by omega, by decide, List.all_eq_true.2 (dec_char n)⟩
  have h2 : segName n ≠ manifestS := fun h => absurd (List.cons.inj h).1 (by decide)
  have h3 : segName n ≠ nextS := fun h => absurd (List.cons.inj h).1 (by decide)
  simp [okPiece, h1, h2, h3]
theorem okPiece_name {s : Str} (h : okPiece s = true) : okName s = true ∧ s ≠ manifestS ∧ s ≠ nextS := by
  simp only [okPiece, Bool.and_eq_true, decide_eq_true_eq] at h
  exact ⟨h.1.1, h.1.2, h.2⟩
def sealedFrom : List Str → Int → List Pc → Bool
  | _, _, [] => true
  | seen, first, p :: l => (okPiece p.name && !decide (p.name ∈ seen) && decide (p.first = first) && decide (1 ≤ p.count) && decide (p.count ≤ 1099511627776)) && sealedFrom (p.name :: seen) (first + p.count) l
def endOf (first : Int) : List Pc → Int
  | [] => first
  | p :: l => endOf (first + p.count) l
theorem endOf_snoc (p : Pc) : ∀ (l : List Pc) (first : Int), endOf first (l ++ [p]) = endOf first l + p.count
  | [], _ => rfl
  | _q :: l, _first => endOf_snoc p l _
theorem rightFrom_snoc (p : Pc) : ∀ (l : List Pc) (seen : List Str) (first : Int), rightFrom seen first (l ++ [p]) = true ↔
    sealedFrom seen first l = true ∧ okPiece p.name = true ∧ p.name ∉ seen ∧ p.name ∉ l.map Pc.name ∧ p.first = endOf first l ∧ p.count = 0 ∧ p.dense = false
  | [], seen, first => by
    simp only [List.nil_append, rightFrom, sealedFrom, endOf, List.map_nil, Bool.and_eq_true, decide_eq_true_eq, Bool.not_eq_true', decide_eq_false_iff_not, if_true]
    simp only [List.not_mem_nil, not_false_eq_true, true_and, and_true]
    constructor
    · rintro ⟨⟨⟨a, b⟩, c⟩, d, e⟩; exact ⟨a, b, c, d, e⟩
    · rintro ⟨a, b, c, d, e⟩; exact ⟨⟨⟨a, b⟩, c⟩, d, e⟩
  | q :: l, seen, first => by
    have ih := rightFrom_snoc p l (q.name :: seen) (first + q.count)
    have hne : l ++ [p] ≠ [] := by simp
    simp only [List.cons_append, rightFrom, sealedFrom, endOf, List.map_cons, Bool.and_eq_true, decide_eq_true_eq, Bool.not_eq_true', decide_eq_false_iff_not, if_neg hne, ih, List.mem_cons, not_or]
    constructor
    · rintro ⟨⟨⟨⟨a, b⟩, c⟩, d, e⟩, f, g, ⟨h, i⟩, j, k⟩
      exact ⟨⟨⟨⟨⟨⟨a, b⟩, c⟩, d⟩, e⟩, f⟩, g, i, ⟨h, j⟩, k⟩
    · rintro ⟨⟨⟨⟨⟨⟨a, b⟩, c⟩, d⟩, e⟩, f⟩, g, i, ⟨h, j⟩, k⟩
      exact ⟨⟨⟨⟨a, b⟩, c⟩, d, e⟩, f, g, ⟨h, i⟩, j, k⟩
theorem sealedFrom_snoc (p : Pc) : ∀ (l : List Pc) (seen : List Str) (first : Int), sealedFrom seen first (l ++ [p]) = true ↔
    sealedFrom seen first l = true ∧ okPiece p.name = true ∧ p.name ∉ seen ∧ p.name ∉ l.map Pc.name ∧ p.first = endOf first l ∧ 1 ≤ p.count ∧ p.count ≤ 1099511627776
  | [], seen, first => by
    simp only [List.nil_append, sealedFrom, endOf, List.map_nil, Bool.and_eq_true, decide_eq_true_eq, Bool.not_eq_true', decide_eq_false_iff_not]
    simp only [List.not_mem_nil, not_false_eq_true, true_and, and_true]
    constructor
    · rintro ⟨⟨⟨⟨a, b⟩, c⟩, d⟩, e⟩; exact ⟨a, b, c, d, e⟩
    · rintro ⟨a, b, c, d, e⟩; exact ⟨⟨⟨⟨a, b⟩, c⟩, d⟩, e⟩
  | q :: l, seen, first => by
    have ih := sealedFrom_snoc p l (q.name :: seen) (first + q.count)
    simp only [List.cons_append, sealedFrom, endOf, List.map_cons, Bool.and_eq_true, decide_eq_true_eq, Bool.not_eq_true', decide_eq_false_iff_not, ih, List.mem_cons, not_or]
    constructor
    · rintro ⟨⟨⟨⟨⟨a, b⟩, c⟩, d⟩, e⟩, f, g, ⟨h, i⟩, j, k⟩
      exact ⟨⟨⟨⟨⟨⟨a, b⟩, c⟩, d⟩, e⟩, f⟩, g, i, ⟨h, j⟩, k⟩
    · rintro ⟨⟨⟨⟨⟨⟨a, b⟩, c⟩, d⟩, e⟩, f⟩, g, i, ⟨h, j⟩, k⟩
      exact ⟨⟨⟨⟨⟨a, b⟩, c⟩, d⟩, e⟩, f, g, ⟨h, i⟩, j, k⟩
theorem lastP_snoc (l : List Pc) (p : Pc) : lastP (l ++ [p]) = p := by simp [lastP]
theorem split_last {l : List Pc} (h : l ≠ []) : l = l.dropLast ++ [lastP l] := by
  have e : lastP l = l.getLast h := by simp [lastP, List.getLastD_eq_getLast?, List.getLast?_eq_some_getLast h]
  rw [e]; exact (List.dropLast_concat_getLast h).symm
structure RightP (A : List Pc) (p : Pc) : Prop where
  few : A.length < 100
  sealed_ : sealedFrom [] 0 A = true
  name : okPiece p.name = true
  apart : p.name ∉ A.map Pc.name
  first : p.first = endOf 0 A
  count : p.count = 0
  dense : p.dense = false
theorem rightL_iff (A : List Pc) (p : Pc) : rightL (A ++ [p]) = true ↔ RightP A p := by
  simp only [rightL, Bool.and_eq_true, decide_eq_true_eq, rightFrom_snoc, List.length_append, List.length_singleton]
  constructor
  · rintro ⟨⟨-, h1⟩, h2, h3, -, h4, h5, h6, h7⟩
    exact ⟨by omega, h2, h3, h4, h5, h6, h7⟩
  · rintro ⟨h1, h2, h3, h4, h5, h6, h7⟩
    exact ⟨⟨by omega, by omega⟩, h2, h3, by simp, h4, h5, h6, h7⟩
theorem sealed_end : ∀ (l : List Pc) (seen : List Str) (first : Int), sealedFrom seen first l = true → first ≤ endOf first l ∧ ∀ p ∈ l, first ≤ p.first ∧ p.first < endOf first l
  | [], _, _, _ => ⟨Int.le_refl _, fun _ h => by cases h⟩
  | q :: l, seen, first, h => by
    simp only [sealedFrom, Bool.and_eq_true, decide_eq_true_eq] at h
    obtain ⟨⟨⟨⟨-, h2⟩, h3⟩, h4⟩, h5⟩ := h
    obtain ⟨i1, i2⟩ := sealed_end l _ _ h5
    simp only [endOf]
    refine ⟨by omega, fun p hp => ?_⟩
    rcases List.mem_cons.1 hp with rfl | hp
    · omega
    · have := i2 p hp; omega
end Go.Proofs.YtkbenkldfehhlaaGreatDoor

namespace Go.Proofs.YtkbenkldfehhlaaGreatDoor
open Go Go.RowKit Go.Sort
set_option maxRecDepth 100000
set_option maxHeartbeats 1600000

def pcV (p : Pc) : List Value := [.string ⟨p.name.toArray⟩, .int .i64 p.first, .int .i64 p.count, .bool p.dense]
structure Pc.Ok (p : Pc) : Prop where
  name : p.name.length ≤ 9223372036854775807
  first : in64 p.first
  count : in64 p.count
structure Pcs (w : World) (v : Value) (l : List Pc) : Prop where
  src : SrcV 4 w v l.length (l.flatMap pcV)
  ok : ∀ p ∈ l, p.Ok
theorem flat_pc : ∀ (l : List Pc) (i : Nat) (h : i < l.length) (j : Nat) (_hj : j < 4), (l.flatMap pcV)[i * 4 + j]? = (pcV l[i])[j]?
  | e :: l, 0, _, j, hj => by
    rw [List.flatMap_cons, Nat.zero_mul, Nat.zero_add, List.getElem?_append_left (by simpa [pcV] using hj)]; rfl
  | e :: l, i + 1, h, j, hj => by
    have ih := flat_pc l i (by simpa using h) j hj
    rw [List.flatMap_cons, List.getElem?_append_right (by simp [pcV]; omega), show (i + 1) * 4 + j - (pcV e).length = i * 4 + j by simp [pcV]; omega, ih]
    rfl
theorem Pcs.nw {w w' : World} {v : Value} {l : List Pc} (h : Pcs w v l) (hw : Nw w w') : Pcs w' v l := ⟨h.src.nw hw, h.ok⟩
theorem Pcs.elem {w : World} {v : Value} {l : List Pc} (h : Pcs w v l) : ∃ a cap, v = .slice a l.length cap ∧ l.length ≤ cap ∧ cap ≤ maxLen ∧ ∀ i (hi : i < l.length), ∃ g o, a = some ⟨g, o, none⟩ ∧ g < w.heap.size ∧
    w.cell? ⟨g, o + i * 4, none⟩ = some (.string ⟨l[i].name.toArray⟩) ∧ w.cell? ⟨g, o + i * 4 + 1, none⟩ = some (.int .i64 l[i].first) ∧ w.cell? ⟨g, o + i * 4 + 2, none⟩ = some (.int .i64 l[i].count) ∧
    w.cell? ⟨g, o + i * 4 + 3, none⟩ = some (.bool l[i].dense) := by
  obtain ⟨⟨h0, ⟨a, rfl, hn⟩ | ⟨g, o, cap, rfl, h1, h2, h3, h4⟩⟩, -⟩ := h
  · exact ⟨a, 0, by rw [hn], by simp [hn], by simp, fun i hi => by omega⟩
  · refine ⟨_, cap, rfl, h1, h2, fun i hi => ⟨g, o, rfl, h3, ?_⟩⟩
    have key : ∀ j (hj : j < 4), w.cell? ⟨g, o + i * 4 + j, none⟩ = (pcV l[i])[j]? := fun j hj => by
      have e := flat_pc l i hi j hj
      have hlt : i * 4 + j < (l.flatMap pcV).length := by rw [h0]; omega
      have := h4 (i * 4 + j) hlt
      rw [← Nat.add_assoc] at this
      rw [this, ← e, List.getElem?_eq_getElem hlt]
    exact ⟨key 0 (by omega), key 1 (by omega), key 2 (by omega), key 3 (by omega)⟩
structure Seen (w : World) (m : Nat) (names : List Str) : Prop where
  map : ∃ L clock, w.heap[m]? = some (.map (ents L) clock) ∧ (L.map En.key) = names ∧ ∀ e ∈ L, e.val = .int .i64 1

theorem zeroInt (w : World) : (zeroValue 3).run Tryz.prog w = .ok (.int .i64 0) w := by kernel_rfl
theorem seen_step {w W1 : World} {m bp : Nat} {names : List Str} {t : TypeId} {cs : Array Value} (h : Seen W1 m names) (_hd : names.Nodup) (n : Str) (hw : Nw w W1) (hm : w.heap.size ≤ m) (hb : W1.heap[bp]? = some (.cells cs t (0, 0))) :
    ∃ (x : Int) (W2 : World), (Instr.lookup 109 (.map (some m)) (.string ⟨n.toArray⟩) false).run Tryz.prog W1 = .ok (.int .i64 x) W1 ∧
      (Instr.mapUpdate 109 (.map (some m)) (.string ⟨n.toArray⟩) (.int .i64 (x + 1))).run Tryz.prog W1 = .ok () W2 ∧
      (∀ W3, Nw W2 W3 → (Instr.lookup 109 (.map (some m)) (.string ⟨n.toArray⟩) false).run Tryz.prog W3 = .ok (.int .i64 (x + 1)) W3) ∧
      Nw w W2 ∧ W2.heap[bp]? = some (.cells cs t (0, 0)) ∧ ((n ∈ names ∧ x = 1) ∨ (n ∉ names ∧ x = 0 ∧ Seen W2 m (names ++ [n]))) := by
  obtain ⟨L, clock, hmap, hk, hv⟩ := h.map
  have hbm : bp ≠ m := fun e => by subst e; rw [hmap] at hb; cases hb
  have ht := Tryz.underlying109
  have hs := Tryz.underlying9
  rcases split_key n L with hn | ⟨A, e, B, rfl, he, hA⟩
  · have hn' : n ∉ names := by rw [← hk]; exact hn
    have hW2 : (World.setBlk W1 m (.map (ents (L ++ [⟨n, .int .i64 (0 + 1), clock⟩])) (clock + 1))).heap[m]? = some (.map (ents (L ++ [⟨n, .int .i64 (0 + 1), clock⟩])) (clock + 1)) := setBlk_same hmap
    refine ⟨0, _, run_look_miss ht hs (zeroInt _) hmap hn, run_store_miss ht hs hmap hn _, fun W3 h3 => ?_, Only.setBlk hw (fun h => by omega) _, by rw [setBlk_other hbm]; exact hb, .inr ⟨hn', rfl, ⟨_, _, hW2, ?_, ?_⟩⟩⟩
    · exact run_look_hit (A := L) (B := []) (e := ⟨n, .int .i64 (0 + 1), clock⟩) ht hs (h3.at_ hW2) rfl hn
    · simp [hk]
    · intro e he
      rcases List.mem_append.1 he with he | he
      · exact hv e he
      · rw [List.mem_singleton] at he; subst he; rfl
  · have hn' : n ∈ names := by rw [← hk, ← he]; simp
    have h1 : e.val = .int .i64 1 := hv e (by simp)
    have hl := run_look_hit (P := Tryz.prog) ht hs hmap he hA
    rw [h1] at hl
    have hW2 : (World.setBlk W1 m (.map (ents (A ++ ⟨n, .int .i64 (1 + 1), e.born⟩ :: B)) clock)).heap[m]? = some (.map (ents (A ++ ⟨n, .int .i64 (1 + 1), e.born⟩ :: B)) clock) := setBlk_same hmap
    refine ⟨1, _, hl, run_store_hit ht hs hmap he hA _, fun W3 h3 => ?_, Only.setBlk hw (fun h => by omega) _, by rw [setBlk_other hbm]; exact hb, .inl ⟨hn', rfl⟩⟩
    exact run_look_hit (A := A) (B := B) (e := ⟨n, .int .i64 (1 + 1), e.born⟩) ht hs (h3.at_ hW2) rfl hA

theorem rightFrom_at {l : List Pc} {k : Nat} (h : k < l.length) (seen : List Str) (f : Int) : rightFrom seen f (l.drop k) =
    (okPiece l[k].name && !decide (l[k].name ∈ seen) && decide (l[k].first = f) && (if k + 1 = l.length then decide (l[k].count = 0) && !l[k].dense else decide (1 ≤ l[k].count) && decide (l[k].count ≤ 1099511627776)) && rightFrom (l[k].name :: seen) (f + l[k].count) (l.drop (k + 1))) := by
  rw [List.drop_eq_getElem_cons h]
  simp only [rightFrom]
  by_cases hk : k + 1 = l.length
  · rw [if_pos (by rw [hk]; simp), if_pos hk]
  · rw [if_neg (by simp; omega), if_neg hk]

theorem Right_ok {w : World} {v : Value} {l : List Pc} (hv : Pcs w v l) :
    Calls Tryz.prog 80 #[v] w fun e w' => e = .returned (.bool (rightL l)) ∧ Nw w w' := by
  obtain ⟨a, cap, rfl, hc, hm, hel⟩ := hv.elem
  have HE := Lib.hid hel
  have HO := Lib.hid hv.ok
  clear hel hv
  by_cases h1 : l.length < 1
  · have r : Hid (rightL l = false) := Lib.hid (by unfold rightL; rw [decide_eq_false (by omega)]; rfl)
    go_enter Tryz.func80, Tryz.ntmps80
    go_wp2
    go_ret
    exact ⟨by rw [r.out]; rfl, Nw.refl _⟩
  by_cases h2 : 100 < l.length
  · have r : Hid (rightL l = false) := Lib.hid (by unfold rightL; rw [decide_eq_false (show ¬ l.length ≤ 100 by omega)]; simp)
    go_enter Tryz.func80, Tryz.ntmps80
    go_wp2
    go_ret
    exact ⟨by rw [r.out]; rfl, Nw.refl _⟩
  have R : Hid (rightL l = rightFrom [] 0 l) := Lib.hid (by unfold rightL; rw [decide_eq_true (show 1 ≤ l.length by omega), decide_eq_true (show l.length ≤ 100 by omega)]; rfl)
  obtain ⟨n, hn⟩ : ∃ n, l.length = n := ⟨_, rfl⟩
  have HN := Lib.hid hn
  rw [hn] at h1 h2 hc ⊢
  clear hn
  have hmm := @run_makeMap Tryz.prog
  go_enter Tryz.func80, Tryz.ntmps80
  go_wp2
  go_loopw [3, 19] (fun f i wr => ∃ (k : Nat) (fi : Int), k ≤ n ∧ i = .int .i64 k ∧ f = .int .i64 fi ∧ 0 ≤ fi ∧ fi ≤ 1099511627776 * k ∧ rightFrom [] 0 l = rightFrom ((l.take k).map Pc.name).reverse fi (l.drop k) ∧ ((l.take k).map Pc.name).Nodup ∧ Seen wr w.heap.size ((l.take k).map Pc.name) ∧ Nw w wr) (fun _ i _ => n - (intOf i).toNat)
  case atStart => exact ⟨0, 0, by omega, rfl, rfl, by omega, by omega, rfl, by simp, ⟨[], 0, heap_alloc_new w _, by simp, by simp⟩, (Nw.refl w).alloc _⟩
  case round =>
    obtain ⟨k, fi, hk, rfl, rfl, hf0, hf1, hr, hd, hs, hw⟩ := hrel
    clear hmm
    by_cases hlt : k < n
    · have hkl : k < l.length := by rw [HN.out]; exact hlt
      obtain ⟨g, o, rfl, hg, c0, c1, c2, c3⟩ := HE.out k hkl
      have d0 := hw.cell c0
      have d1 := hw.cell c1
      have d2 := hw.cell c2
      have d3 := hw.cell c3
      have hg' := Nat.lt_of_lt_of_le hg hw.size
      have hat := rightFrom_at hkl ((l.take k).map Pc.name).reverse fi
      rw [← hr] at hat
      have hsn : (l.take (k + 1)).map Pc.name = (l.take k).map Pc.name ++ [l[k].name] := by rw [List.take_succ_eq_append_getElem hkl, List.map_append]; rfl
      have HOK : Hid (l[k] : Pc).Ok := Lib.hid (HO.out _ (List.getElem_mem hkl))
      generalize (l.take k).map Pc.name = nm at hat hsn hd hs hr
      obtain ⟨L1, clock, hmap, hkeys, hvals⟩ := hs.map
      have hn1 := (Nw.refl wr).alloc (.cells (pcV l[k]).toArray 98 (0, 0))
      have hs1 : Seen (wr.alloc (.cells (pcV l[k]).toArray 98 (0, 0))) w.heap.size nm := ⟨L1, clock, hn1.at_ hmap, hkeys, hvals⟩
      obtain ⟨x, W2, q1, q2, q3, q4, q5, q6⟩ := seen_step (w := w) hs1 hd l[k].name (hw.trans hn1) (Nat.le_refl _) (heap_alloc_new wr _)
      clear hmap hkeys hvals hs hs1 hn1 c0 c1 c2 c3
      have HNX := Lib.hid (And.intro hsn hd)
      clear hsn hd
      generalize hP : (l[k] : Pc) = P at *
      obtain ⟨pn, pf, pc, pd⟩ := P
      simp only [pcV] at q1 q2 q3 q5
      have HAT := Lib.hid hat
      have HR := Lib.hid hr
      have Q4 := Lib.hid q4
      have Q5 := Lib.hid q5
      have Q6 := Lib.hid q6
      have HP := Lib.hid hP
      have HW := Lib.hid hw
      clear hat hr q4 q5 q6 hP hw
      have hxx : x = 0 ∨ x = 1 := by rcases Q6.out with h | h <;> omega
      have hwx : IntKind.i64.wrap (x + 1) = x + 1 := IntWalk.i64_in _ (by omega)
      have y0 : W2.cell? ⟨wr.heap.size, 0, none⟩ = some (.string ⟨pn.toArray⟩) := by have := Q5.out; simp [World.cell?, this]
      go_wp2_with fail
      refine (named_ok pn W2 HOK.out.name).mono ?_
      rintro e w3 ⟨rfl, n3⟩
      have B3 := n3.at_ Q5.out
      have x0 : w3.cell? ⟨wr.heap.size, 0, none⟩ = some (.string ⟨pn.toArray⟩) := by simp [World.cell?, B3]
      have x1 : w3.cell? ⟨wr.heap.size, 1, none⟩ = some (.int .i64 pf) := by simp [World.cell?, B3]
      have x2 : w3.cell? ⟨wr.heap.size, 2, none⟩ = some (.int .i64 pc) := by simp [World.cell?, B3]
      have x3 : w3.cell? ⟨wr.heap.size, 3, none⟩ = some (.bool pd) := by simp [World.cell?, B3]
      have q7 := q3 w3 n3
      have N3 := Lib.hid (Q4.out.trans n3)
      have NN3 := Lib.hid n3
      clear q1 q2 q3 d0 d1 d2 d3 B3 n3 y0
      cases hok : okPiece pn
      case false =>
        have r : Hid (rightL l = false) := Lib.hid (by rw [R.out, HAT.out]; simp [hok])
        clear hok
        go_wp2
        go_ret
        exact ⟨by rw [r.out]; rfl, N3.out⟩
      case true =>
        have HOKN := Lib.hid hok
        clear hok
        rcases Q6.out with ⟨hin, rfl⟩ | ⟨hout, rfl, hseen⟩
        · have r : Hid (rightL l = false) := Lib.hid (by rw [R.out, HAT.out]; simp [hin])
          clear hin
          go_wp2
          go_ret
          exact ⟨by rw [r.out]; rfl, N3.out⟩
        · have HSEEN := Lib.hid hseen
          have HOUT := Lib.hid hout
          clear hseen hout
          by_cases hfe : pf = fi
          · subst hfe
            by_cases hla : k + 1 = n
            · have hlb : ((k : Int) == (n : Int) - 1) = true := by simp; omega
              have hlc : k + 1 = l.length := by rw [HN.out]; exact hla
              by_cases hp0 : pc = 0
              · subst hp0
                have hw0 : IntKind.i64.wrap (pf + 0) = pf + 0 := IntWalk.i64_in _ (by omega)
                cases pd
                case true =>
                  have r : Hid (rightL l = false) := Lib.hid (by rw [R.out, HAT.out]; simp [hlc])
                  go_wp2
                  go_ret
                  exact ⟨by rw [r.out]; rfl, N3.out⟩
                case false =>
                  have hst : rightFrom [] 0 l = rightFrom (pn :: nm.reverse) (pf + 0) (l.drop (k + 1)) := by rw [HAT.out]; simp [HOKN.out, HOUT.out, hlc]
                  have HST := Lib.hid hst
                  clear hst
                  go_wp2
                  go_roundw
                  case rel =>
                    have hsn := HNX.out.1
                    refine ⟨k + 1, pf + 0, by omega, by go_num, by first | rfl | simp, by omega, by omega, ?_, ?_, ?_, N3.out⟩
                    · rw [hsn, List.reverse_append]; exact HST.out
                    · rw [hsn, List.nodup_append]; exact ⟨HNX.out.2, by simp, fun a ha b hb => by rw [List.mem_singleton] at hb; subst hb; exact fun e => HOUT.out (e ▸ ha)⟩
                    · rw [hsn]
                      obtain ⟨L9, c9, m9, k9, v9⟩ := HSEEN.out.map
                      exact ⟨L9, c9, NN3.out.at_ m9, k9, v9⟩
                  case measure => simp [intOf]; omega
              · have hb : (pc != 0) = true := by simpa using hp0
                have r : Hid (rightL l = false) := Lib.hid (by rw [R.out, HAT.out]; simp [hlc, hp0])
                go_wp2
                go_ret
                exact ⟨by rw [r.out]; rfl, N3.out⟩
            · have hlb : ((k : Int) == (n : Int) - 1) = false := by simp; omega
              have hlc : ¬ k + 1 = l.length := by rw [HN.out]; exact hla
              by_cases hp1 : pc < 1
              · have hp1' : ¬ 1 ≤ pc := by omega
                have r : Hid (rightL l = false) := Lib.hid (by rw [R.out, HAT.out]; simp [hlc, hp1'])
                go_wp2
                go_ret
                exact ⟨by rw [r.out]; rfl, N3.out⟩
              by_cases hp2 : 1099511627776 < pc
              · have hp2' : ¬ pc ≤ 1099511627776 := by omega
                have r : Hid (rightL l = false) := Lib.hid (by rw [R.out, HAT.out]; simp [hlc, hp2'])
                go_wp2
                go_ret
                exact ⟨by rw [r.out]; rfl, N3.out⟩
              have hp1' : 1 ≤ pc := by omega
              have hp2' : pc ≤ 1099511627776 := by omega
              have hw0 : IntKind.i64.wrap (pf + pc) = pf + pc := IntWalk.i64_in _ (by omega)
              have hst : rightFrom [] 0 l = rightFrom (pn :: nm.reverse) (pf + pc) (l.drop (k + 1)) := by rw [HAT.out]; simp [HOKN.out, HOUT.out, hlc, hp1', hp2']
              have HST := Lib.hid hst
              clear hst
              go_wp2
              go_roundw
              case rel =>
                have hsn := HNX.out.1
                refine ⟨k + 1, pf + pc, by omega, by go_num, by first | rfl | simp, by omega, by omega, ?_, ?_, ?_, N3.out⟩
                · rw [hsn, List.reverse_append]; exact HST.out
                · rw [hsn, List.nodup_append]; exact ⟨HNX.out.2, by simp, fun a ha b hb => by rw [List.mem_singleton] at hb; subst hb; exact fun e => HOUT.out (e ▸ ha)⟩
                · rw [hsn]
                  obtain ⟨L9, c9, m9, k9, v9⟩ := HSEEN.out.map
                  exact ⟨L9, c9, NN3.out.at_ m9, k9, v9⟩
              case measure => simp [intOf]; omega
          · have r : Hid (rightL l = false) := Lib.hid (by rw [R.out, HAT.out]; simp [hfe])
            have hb : (pf != fi) = true := by simpa using hfe
            go_wp2
            go_ret
            exact ⟨by rw [r.out]; rfl, N3.out⟩
    · obtain rfl : k = n := by omega
      have r : Hid (rightL l = true) := Lib.hid (by rw [R.out, hr, List.drop_of_length_le (by rw [HN.out]; exact Nat.le_refl _)]; rfl)
      clear hr hs hd
      go_wp2
      go_ret
      exact ⟨by rw [r.out]; rfl, hw⟩
end Go.Proofs.YtkbenkldfehhlaaGreatDoor
