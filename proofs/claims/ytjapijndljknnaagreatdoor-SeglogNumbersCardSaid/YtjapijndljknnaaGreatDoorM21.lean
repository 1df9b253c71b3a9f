/-
  Texts merged by a program of this claim's: ReadB.
-/
import Derived.Test.YtjapijndljknnaaGreatDoorM20
import Derived.Test.YtjapijndljknnaaGreatDoorM12
/-
  Package event, walked: Get, Read: what reads events and frames.
-/
namespace Go.Proofs.YtjapijndljknnaaGreatDoor
open Go Go.RowKit Go.Sort
set_option maxRecDepth 100000
set_option maxHeartbeats 1600000

/-- What the closure in Get hands back, of what it has read so far. -/
def gI (l : List UInt8) (a : Int) (r : Int × Int × Int) : Int := if r.2.2 = 0 then w64 (a + (getI l r.2.1).1) else 0
theorem Get1_ok {W : World} {v : Value} {l : List UInt8} {pb pa px : Nat} {n at_ bad : Int} (h0 : W.heap[pb]? = some (.cells #[v] 35 (0, 0))) (h1 : W.heap[pa]? = some (.cells #[.int .i64 at_] 3 (0, 0))) (h2 : W.heap[px]? = some (.cells #[.int .i64 bad] 36 (0, 0)))
    (hne : px ≠ pa) (hv : Bs W v l) (ha : in64 at_) (a : Int) :
    Calls Tryz.prog 213 #[.int .i64 a, .pointer (some ⟨px, 0, none⟩), .pointer (some ⟨pb, 0, none⟩), .pointer (some ⟨pa, 0, none⟩)] W fun e W' => e = .returned (.int .i64 (gI l a (n, at_, bad))) ∧
      W'.heap[pa]? = some (.cells #[.int .i64 (thenI l (n, at_, bad)).2.1] 3 (0, 0)) ∧ W'.heap[px]? = some (.cells #[.int .i64 (thenI l (n, at_, bad)).2.2] 36 (0, 0)) ∧ Only (fun k => k = pa ∨ k = px) W W' := by
  have c0 : W.cell? ⟨pb, 0, none⟩ = some v := by simp [World.cell?, h0]
  have c1 : W.cell? ⟨pa, 0, none⟩ = some (.int .i64 at_) := by simp [World.cell?, h1]
  have c2 : W.cell? ⟨px, 0, none⟩ = some (.int .i64 bad) := by simp [World.cell?, h2]
  have f1 : W.frozen? ⟨pa, 0, none⟩ = false := by simp [World.frozen?, h1]
  have f2 : W.frozen? ⟨px, 0, none⟩ = false := by simp [World.frozen?, h2]
  have hlb := lt_of_block h0
  have hla := lt_of_block h1
  have hlx := lt_of_block h2
  have H1 := Lib.hid h1
  have H2 := Lib.hid h2
  obtain ⟨sa, sc, rfl, -⟩ := hv.len
  by_cases hb : bad = 0
  case neg =>
    have q1 : (bad != 0) = true := by simpa using hb
    have R1 : Hid (gI l a (n, at_, bad) = 0) := Lib.hid (by unfold gI; rw [if_neg hb])
    have R2 : Hid (thenI l (n, at_, bad) = (0, at_, bad)) := Lib.hid (by unfold thenI; rw [if_neg hb])
    clear hv h0 h1 h2 hb
    go_enter Tryz.func213, Tryz.ntmps213
    go_wp2
    go_ret
    exact ⟨by rw [R1.out]; rfl, by rw [R2.out]; exact H1.out, by rw [R2.out]; exact H2.out, Only.refl _⟩
  subst hb
  obtain ⟨⟨m, x, e⟩, hm⟩ : ∃ y, getI l at_ = y := ⟨_, rfl⟩
  have HG := Lib.hid (GetInt_ok hv at_ ha hm)
  have R1 : Hid (gI l a (n, at_, 0) = w64 (a + m)) := Lib.hid (by unfold gI; rw [if_pos rfl, hm])
  have R2 : Hid (thenI l (n, at_, 0) = (m, x, e)) := Lib.hid (by unfold thenI; rw [if_pos rfl, hm])
  have hw : IntKind.i64.wrap (a + m) = w64 (a + m) := by rw [IntKind.wrap_i64]; rfl
  have HNE := Lib.hid hne
  clear hv h0 h1 h2 hm
  go_enter Tryz.func213, Tryz.ntmps213
  go_wp2_with fail
  refine HG.out.mono ?_
  rintro y w1 ⟨rfl, rfl⟩
  go_wp2
  go_ret
  have b1 := one_setCell H1.out (u := .int .i64 x)
  have k1 : (W.setCell ⟨pa, 0, none⟩ (.int .i64 x)).heap[px]? = some (.cells #[.int .i64 0] 36 (0, 0)) := by rw [Below.heap_setCell _ _ _ _ (show px ≠ (⟨pa, 0, none⟩ : Addr).block from HNE.out)]; exact H2.out
  have b2 := one_setCell k1 (u := .int .i64 e)
  refine ⟨by rw [R1.out]; rfl, ?_, ?_, ?_⟩
  · rw [R2.out, Below.heap_setCell _ _ _ _ (show pa ≠ (⟨px, 0, none⟩ : Addr).block from HNE.out.symm)]
    exact b1
  · rw [R2.out]; exact b2
  · exact ((Only.refl W).setCell (fun _ => .inl rfl) _).setCell (fun _ => .inr rfl) _

/-- Get's variables: its bytes, the place, the event ahead, what it answers, the event, the error. -/
structure GS (w W : World) (v : Value) (h : Ev) (at_ bad : Int) (e : Ev) : Prop where
  b0 : W.heap[w.heap.size]? = some (.cells #[v] 35 (0, 0))
  b1 : W.heap[w.heap.size + 1]? = some (.cells #[.int .i64 at_] 3 (0, 0))
  b2 : W.heap[w.heap.size + 1 + 1]? = some (.cells (evV h).toArray 73 (0, 0))
  b3 : W.heap[w.heap.size + 1 + 1 + 1]? = some (.cells (evV Ev.zero).toArray 73 (0, 0))
  b4 : W.heap[w.heap.size + 1 + 1 + 1 + 1]? = some (.cells (evV e).toArray 73 (0, 0))
  b5 : W.heap[w.heap.size + 1 + 1 + 1 + 1 + 1]? = some (.cells #[.int .i64 bad] 36 (0, 0))
  nw : Nw w W
section
variable {w W W' : World} {v : Value} {h e e' : Ev} {at_ bad at' bad' : Int} {l : List UInt8}
theorem GS.step (H : GS w W v h at_ bad e) (h1 : W'.heap[w.heap.size + 1]? = some (.cells #[.int .i64 at'] 3 (0, 0))) (h2 : W'.heap[w.heap.size + 1 + 1 + 1 + 1 + 1]? = some (.cells #[.int .i64 bad'] 36 (0, 0)))
    (ho : Only (fun k => k = w.heap.size + 1 ∨ k = w.heap.size + 1 + 1 + 1 + 1 + 1) W W') : GS w W' v h at' bad' e :=
  ⟨ho.at_ H.b0 (by omega), h1, ho.at_ H.b2 (by omega), ho.at_ H.b3 (by omega), ho.at_ H.b4 (by omega), h2, H.nw.trans' ho (fun k hk hc => by omega)⟩
theorem GS.call (H : GS w W v h at_ bad e) (hv : Bs w v l) (ha : in64 at_) (a n : Int) :
    Calls Tryz.prog 213 #[.int .i64 a, .pointer (some ⟨w.heap.size + 1 + 1 + 1 + 1 + 1, 0, none⟩), .pointer (some ⟨w.heap.size, 0, none⟩), .pointer (some ⟨w.heap.size + 1, 0, none⟩)] W fun x W' => x = .returned (.int .i64 (gI l a (n, at_, bad))) ∧
      GS w W' v h (thenI l (n, at_, bad)).2.1 (thenI l (n, at_, bad)).2.2 e :=
  (Get1_ok (n := n) H.b0 H.b1 H.b5 (by omega) (hv.nw H.nw) ha a).mono fun _ _ ⟨q1, q2, q3, q4⟩ => ⟨q1, H.step q2 q3 q4⟩
theorem GS.put (H : GS w W v h at_ bad e) (i : Nat) (u : Value) (he : (evV e).toArray.setIfInBounds i u = (evV e').toArray) : GS w (W.setCell ⟨w.heap.size + 1 + 1 + 1 + 1, i, none⟩ u) v h at_ bad e' := by
  have ho : Only (fun k => k = w.heap.size + 1 + 1 + 1 + 1) W (W.setCell ⟨w.heap.size + 1 + 1 + 1 + 1, i, none⟩ u) := Only.setCell (S := fun k => k = w.heap.size + 1 + 1 + 1 + 1) (p := ⟨w.heap.size + 1 + 1 + 1 + 1, i, none⟩) (Only.refl W) (fun _ => rfl) _
  refine ⟨ho.at_ H.b0 (by omega), ho.at_ H.b1 (by omega), ho.at_ H.b2 (by omega), ho.at_ H.b3 (by omega), ?_, ho.at_ H.b5 (by omega), H.nw.trans' ho (fun k hk hc => by omega)⟩
  have := heap_setCell_at H.b4 i u
  rw [he] at this
  exact this
theorem GS.cells (H : GS w W v h at_ bad e) : W.cell? ⟨w.heap.size + 1 + 1, 0, none⟩ = some (.int .i64 h.thread) ∧ W.cell? ⟨w.heap.size + 1 + 1, 2, none⟩ = some (.int .i64 h.obj) ∧ W.cell? ⟨w.heap.size + 1 + 1, 3, none⟩ = some (.int .i64 h.a) ∧ W.cell? ⟨w.heap.size + 1 + 1, 4, none⟩ = some (.int .i64 h.b) := by
  have := H.b2
  simp [World.cell?, this, evV]
theorem GS.free (H : GS w W v h at_ bad e) : ∀ i, W.frozen? ⟨w.heap.size + 1 + 1 + 1 + 1, i, none⟩ = false := by
  have := H.b4
  intro i
  simp [World.frozen?, this]
end
theorem GS.start (w : World) (v : Value) (h e : Ev) (at_ bad : Int) :
    GS w ((((((w.alloc (.cells #[v] 35)).alloc (.cells #[.int .i64 at_] 3)).alloc (.cells (evV h).toArray 73)).alloc (.cells (evV Ev.zero).toArray 73)).alloc (.cells (evV e).toArray 73)).alloc (.cells #[.int .i64 bad] 36)) v h at_ bad e := by
  have key : ∀ (W : World) (o : Obj) (k : Nat) (x : Obj), k < W.heap.size → W.heap[k]? = some x → (W.alloc o).heap[k]? = some x := fun W o k x hk hx => (heap_alloc_old W o hk).trans hx
  have n0 := heap_alloc_new w (.cells #[v] 35)
  generalize hw0 : w.alloc (.cells #[v] 35) = w0 at *
  have n1 := heap_alloc_new w0 (.cells #[.int .i64 at_] 3)
  generalize hw1 : w0.alloc (.cells #[.int .i64 at_] 3) = w1 at *
  have n2 := heap_alloc_new w1 (.cells (evV h).toArray 73)
  generalize hw2 : w1.alloc (.cells (evV h).toArray 73) = w2 at *
  have n3 := heap_alloc_new w2 (.cells (evV Ev.zero).toArray 73)
  generalize hw3 : w2.alloc (.cells (evV Ev.zero).toArray 73) = w3 at *
  have n4 := heap_alloc_new w3 (.cells (evV e).toArray 73)
  generalize hw4 : w3.alloc (.cells (evV e).toArray 73) = w4 at *
  have n5 := heap_alloc_new w4 (.cells #[.int .i64 bad] 36)
  have s0 : w0.heap.size = w.heap.size + 1 := by rw [← hw0]; simp
  have s1 : w1.heap.size = w.heap.size + 1 + 1 := by rw [← hw1]; simp [s0]
  have s2 : w2.heap.size = w.heap.size + 1 + 1 + 1 := by rw [← hw2]; simp [s1]
  have s3 : w3.heap.size = w.heap.size + 1 + 1 + 1 + 1 := by rw [← hw3]; simp [s2]
  have s4 : w4.heap.size = w.heap.size + 1 + 1 + 1 + 1 + 1 := by rw [← hw4]; simp [s3]
  have e1 := hw1 ▸ (Nw.refl w0).alloc (.cells #[.int .i64 at_] 3)
  have e2 := hw2 ▸ (Nw.refl w1).alloc (.cells (evV h).toArray 73)
  have e3 := hw3 ▸ (Nw.refl w2).alloc (.cells (evV Ev.zero).toArray 73)
  have e4 := hw4 ▸ (Nw.refl w3).alloc (.cells (evV e).toArray 73)
  have e5 := (Nw.refl w4).alloc (.cells #[.int .i64 bad] 36)
  have e0 := hw0 ▸ (Nw.refl w).alloc (.cells #[v] 35)
  refine ⟨((((e1.trans e2).trans e3).trans e4).trans e5).at_ n0, ?_, ?_, ?_, ?_, ?_, ((((e0.trans e1).trans e2).trans e3).trans e4).trans e5⟩
  · rw [← s0]; exact (((e2.trans e3).trans e4).trans e5).at_ n1
  · rw [← s1]; exact ((e3.trans e4).trans e5).at_ n2
  · rw [← s2]; exact (e4.trans e5).at_ n3
  · rw [← s3]; exact e5.at_ n4
  · rw [← s4]; exact n5
end Go.Proofs.YtjapijndljknnaaGreatDoor
