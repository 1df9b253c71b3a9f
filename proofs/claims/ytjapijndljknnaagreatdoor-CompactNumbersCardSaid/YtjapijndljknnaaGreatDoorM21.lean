/-
  Texts merged by a program of this claim's: ReadB.
-/
import Derived.Test.YtjapijndljknnaaGreatDoorM20
import Derived.Test.YtjapijndljknnaaGreatDoorM12
/-
  Package event, walked: Get, Read: what reads events and frames.
-/
namespace Go.Proofs.YtjapijndljknnaaGreatDoor
open Go Go.RowKit Go.Sort
set_option maxRecDepth 100000
set_option maxHeartbeats 1600000

/-- What the closure in Get hands back, of what it has read so far. -/
def gI (l : List UInt8) (a : Int) (r : Int × Int × Int) : Int := if r.2.2 = 0 then w64 (a + (getI l r.2.1).1) else 0
theorem Get1_ok {W : World} {v : Value} {l : List UInt8} {pb pa px : Nat} {n at_ bad : Int} (h0 : W.heap[pb]? = some (.cells #[v] 35 (0, 0))) (h1 : W.heap[pa]? = some (.cells #[.int .i64 at_] 3 (0, 0))) (h2 : W.heap[px]? = some (.cells #[.int .i64 bad] 36 (0, 0)))
    (hne : px ≠ pa) (hv : Bs W v l) (ha : in64 at_) (a : Int) :
    Calls Tryz.prog 213 #[.int .i64 a, .pointer (some ⟨px, 0, none⟩), .pointer (some ⟨pb, 0, none⟩), .pointer (some ⟨pa, 0, none⟩)] W fun e W' => e = .returned (.int .i64 (gI l a (n, at_, bad))) ∧
      W'.heap[pa]? = some (.cells #[.int .i64 (thenI l (n, at_, bad)).2.1] 3 (0, 0)) ∧ W'.heap[px]? = some (.cells #[.int .i64 (thenI l (n, at_, bad)).2.2] 36 (0, 0)) ∧ Only (fun k => k = pa ∨ k = px) W W' := by
  have c0 : W.cell? ⟨pb, 0, none⟩ = some v := by simp [World.cell?, h0]
  have c1 : W.cell? ⟨pa, 0, none⟩ = some (.int .i64 at_) := by simp [World.cell?, h1]
  have c2 : W.cell? ⟨px, 0, none⟩ = some (.int .i64 bad) := by simp [World.cell?, h2]
  have f1 : W.frozen? ⟨pa, 0, none⟩ = false := by simp [World.frozen?, h1]
  have f2 : W.frozen? ⟨px, 0, none⟩ = false := by simp [World.frozen?, h2]
  have hlb := lt_of_block h0
  have hla := lt_of_block h1
  have hlx := lt_of_block h2
  have H1 := Lib.hid h1
  have H2 := Lib.hid h2
  obtain ⟨sa, sc, rfl, -⟩ := hv.len
  by_cases hb : bad = 0
  case neg =>
    have q1 : (bad != 0) = true := by simpa using hb
    have R1 : Hid (gI l a (n, at_, bad) = 0) := Lib.hid (by unfold gI; rw [if_neg hb])
    have R2 : Hid (thenI l (n, at_, bad) = (0, at_, bad)) := Lib.hid (by unfold thenI; rw [if_neg hb])
    clear hv h0 h1 h2 hb
    go_enter Tryz.func213, Tryz.ntmps213
    go_wp2
    go_ret
    exact ⟨by rw [R1.out]; rfl, by rw [R2.out]; exact H1.out, by rw [R2.out]; exact H2.out, Only.refl _⟩
  subst hb
  obtain ⟨⟨m, x, e⟩, hm⟩ : ∃ y, getI l at_ = y := ⟨_, rfl⟩
  have HG := Lib.hid (GetInt_ok hv at_ ha hm)
  have R1 : Hid (gI l a (n, at_, 0) = w64 (a + m)) := Lib.hid (by unfold gI; rw [if_pos rfl, hm])
  have R2 : Hid (thenI l (n, at_, 0) = (m, x, e)) := Lib.hid (by unfold thenI; rw [if_pos rfl, hm])
  have hw : IntKind.i64.wrap (a + m) = w64 (a + m) := by rw [IntKind.wrap_i64]; rfl
  have HNE := Lib.hid hne
  clear hv h0 h1 h2 hm
  go_enter Tryz.func213, Tryz.ntmps213
  go_wp2_with fail
  refine HG.out.mono ?_
  rintro y w1 ⟨rfl, rfl⟩
  go_wp2
  go_ret
  have b1 := one_setCell H1.out (u := .int .i64 x)
  have k1 : (W.setCell ⟨pa, 0, none⟩ (.int .i64 x)).heap[px]? = some (.cells #[.int .i64 0] 36 (0, 0)) := by rw [Below.heap_setCell _ _ _ _ (show px ≠ (⟨pa, 0, none⟩ : Addr).block from HNE.out)]; exact H2.out
  have b2 := one_setCell k1 (u := .int .i64 e)
  refine ⟨by rw [R1.out]; rfl, ?_, ?_, ?_⟩
  · rw [R2.out, Below.heap_setCell _ _ _ _ (show pa ≠ (⟨px, 0, none⟩ : Addr).block from HNE.out.symm)]
    exact b1
  · rw [R2.out]; exact b2
  · exact ((Only.refl W).setCell (fun _ => .inl rfl) _).setCell (fun _ => .inr rfl) _

/-- Get's variables: its bytes, the place, the event ahead, what it answers, the event, the error. -/
structure GS (w W : World) (v : Value) (h : Ev) (at_ bad : Int) (e : Ev) : Prop where
  b0 : W.heap[w.heap.size]? = some (.cells #[v] 35 (0, 0))
  b1 : W.heap[w.heap.size + 1]? = some (.cells #[.int .i64 at_] 3 (0, 0))
  b2 : W.heap[w.heap.size + 1 + 1]? = some (.cells (evV h).toArray 73 (0, 0))
  b3 : W.heap[w.heap.size + 1 + 1 + 1]? = some (.cells (evV Ev.zero).toArray 73 (0, 0))
  b4 : W.heap[w.heap.size + 1 + 1 + 1 + 1]? = some (.cells (evV e).toArray 73 (0, 0))
  b5 : W.heap[w.heap.size + 1 + 1 + 1 + 1 + 1]? = some (.cells #[.int .i64 bad] 36 (0, 0))
  nw : Nw w W
section
variable {w W W' : World} {v : Value} {h e e' : Ev} {at_ bad at' bad' : Int} {l : List UInt8}
theorem GS.step (H : GS w W v h at_ bad e) (h1 : W'.heap[w.heap.size + 1]? = some (.cells #[.int .i64 at'] 3 (0, 0))) (h2 : W'.heap[w.heap.size + 1 + 1 + 1 + 1 + 1]? = some (.cells #[.int .i64 bad'] 36 (0, 0)))
    (ho : Only (fun k => k = w.heap.size + 1 ∨ k = w.heap.size + 1 + 1 + 1 + 1 + 1) W W') : GS w W' v h at' bad' e :=
  ⟨ho.at_ H.b0 (by omega), h1, ho.at_ H.b2 (by omega), ho.at_ H.b3 (by omega), ho.at_ H.b4 (by omega), h2, H.nw.trans' ho (fun k hk hc => by omega)⟩
theorem GS.call (H : GS w W v h at_ bad e) (hv : Bs w v l) (ha : in64 at_) (a n : Int) :
    Calls Tryz.prog 213 #[.int .i64 a, .pointer (some ⟨w.heap.size + 1 + 1 + 1 + 1 + 1, 0, none⟩), .pointer (some ⟨w.heap.size, 0, none⟩), .pointer (some ⟨w.heap.size + 1, 0, none⟩)] W fun x W' => x = .returned (.int .i64 (gI l a (n, at_, bad))) ∧
      GS w W' v h (thenI l (n, at_, bad)).2.1 (thenI l (n, at_, bad)).2.2 e :=
  (Get1_ok (n := n) H.b0 H.b1 H.b5 (by omega) (hv.nw H.nw) ha a).mono fun _ _ ⟨q1, q2, q3, q4⟩ => ⟨q1, H.step q2 q3 q4⟩
theorem GS.put (H : GS w W v h at_ bad e) (i : Nat) (u : Value) (he : (evV e).toArray.setIfInBounds i u = (evV e').toArray) : GS w (W.setCell ⟨w.heap.size + 1 + 1 + 1 + 1, i, none⟩ u) v h at_ bad e' := by
  have ho : Only (fun k => k = w.heap.size + 1 + 1 + 1 + 1) W (W.setCell ⟨w.heap.size + 1 + 1 + 1 + 1, i, none⟩ u) := Only.setCell (S := fun k => k = w.heap.size + 1 + 1 + 1 + 1) (p := ⟨w.heap.size + 1 + 1 + 1 + 1, i, none⟩) (Only.refl W) (fun _ => rfl) _
  refine ⟨ho.at_ H.b0 (by omega), ho.at_ H.b1 (by omega), ho.at_ H.b2 (by omega), ho.at_ H.b3 (by omega), ?_, ho.at_ H.b5 (by omega), H.nw.trans' ho (fun k hk hc => by omega)⟩
  have := heap_setCell_at H.b4 i u
  rw [he] at this
  exact this
theorem GS.cells (H : GS w W v h at_ bad e) : W.cell? ⟨w.heap.size + 1 + 1, 0, none⟩ = some (.int .i64 h.thread) ∧ W.cell? ⟨w.heap.size + 1 + 1, 2, none⟩ = some (.int .i64 h.obj) ∧ W.cell? ⟨w.heap.size + 1 + 1, 3, none⟩ = some (.int .i64 h.a) ∧ W.cell? ⟨w.heap.size + 1 + 1, 4, none⟩ = some (.int .i64 h.b) := by
  have := H.b2
  simp [World.cell?, this, evV]
theorem GS.free (H : GS w W v h at_ bad e) : ∀ i, W.frozen? ⟨w.heap.size + 1 + 1 + 1 + 1, i, none⟩ = false := by
  have := H.b4
  intro i
  simp [World.frozen?, this]
end
theorem GS.start (w : World) (v : Value) (h e : Ev) (at_ bad : Int) :
    GS w ((((((w.alloc (.cells #[v] 35)).alloc (.cells #[.int .i64 at_] 3)).alloc (.cells (evV h).toArray 73)).alloc (.cells (evV Ev.zero).toArray 73)).alloc (.cells (evV e).toArray 73)).alloc (.cells #[.int .i64 bad] 36)) v h at_ bad e := by
  have key : ∀ (W : World) (o : Obj) (k : Nat) (x : Obj), k < W.heap.size → W.heap[k]? = some x → (W.alloc o).heap[k]? = some x := fun W o k x hk hx => (heap_alloc_old W o hk).trans hx
  have n0 := heap_alloc_new w (.cells #[v] 35)
  generalize hw0 : w.alloc (.cells #[v] 35) = w0 at *
  have n1 := heap_alloc_new w0 (.cells #[.int .i64 at_] 3)
  generalize hw1 : w0.alloc (.cells #[.int .i64 at_] 3) = w1 at *
  have n2 := heap_alloc_new w1 (.cells (evV h).toArray 73)
  generalize hw2 : w1.alloc (.cells (evV h).toArray 73) = w2 at *
  have n3 := heap_alloc_new w2 (.cells (evV Ev.zero).toArray 73)
  generalize hw3 : w2.alloc (.cells (evV Ev.zero).toArray 73) = w3 at *
  have n4 := heap_alloc_new w3 (.cells (evV e).toArray 73)
  generalize hw4 : w3.alloc (.cells (evV e).toArray 73) = w4 at *
  have n5 := heap_alloc_new w4 (.cells #[.int .i64 bad] 36)
  have s0 : w0.heap.size = w.heap.size + 1 := by rw [← hw0]; simp
  have s1 : w1.heap.size = w.heap.size + 1 + 1 := by rw [← hw1]; simp [s0]
  have s2 : w2.heap.size = w.heap.size + 1 + 1 + 1 := by rw [← hw2]; simp [s1]
  have s3 : w3.heap.size = w.heap.size + 1 + 1 + 1 + 1 := by rw [← hw3]; simp [s2]
  have s4 : w4.heap.size = w.heap.size + 1 + 1 + 1 + 1 + 1 := by rw [← hw4]; simp [s3]
  have e1 := hw1 ▸ (Nw.refl w0).alloc (.cells #[.int .i64 at_] 3)
  have e2 := hw2 ▸ (Nw.refl w1).alloc (.cells (evV h).toArray 73)
  have e3 := hw3 ▸ (Nw.refl w2).alloc (.cells (evV Ev.zero).toArray 73)
  have e4 := hw4 ▸ (Nw.refl w3).alloc (.cells (evV e).toArray 73)
  have e5 := (Nw.refl w4).alloc (.cells #[.int .i64 bad] 36)
  have e0 := hw0 ▸ (Nw.refl w).alloc (.cells #[v] 35)
  refine ⟨((((e1.trans e2).trans e3).trans e4).trans e5).at_ n0, ?_, ?_, ?_, ?_, ?_, ((((e0.trans e1).trans e2).trans e3).trans e4).trans e5⟩
  · rw [← s0]; exact (((e2.trans e3).trans e4).trans e5).at_ n1
  · rw [← s1]; exact ((e3.trans e4).trans e5).at_ n2
  · rw [← s2]; exact (e4.trans e5).at_ n3
  · rw [← s3]; exact e5.at_ n4
  · rw [← s4]; exact n5
theorem thenI_place {l : List UInt8} {r : Int × Int × Int} (h : in64 r.2.1) (hl : l.length ≤ 9223372036854775807) : in64 (thenI l r).2.1 := by
  unfold thenI
  split
  · unfold getI
    split
    · rename_i hb
      have := getU_fine hb
      exact ⟨by simp only; omega, by simp only; omega⟩
    · exact ⟨by simp only; omega, by simp only; omega⟩
  · exact h
/-- What Get hands back. -/
theorem EGet_ok {w : World} {v : Value} {l : List UInt8} (hv : Bs w v l) (at_ : Int) (ha : in64 at_) (h : Ev) {e : Ev} {x y : Int} (hr : getE l at_ h = (e, x, y)) :
    Calls Tryz.prog 211 #[v, .int .i64 at_, .agg (evV h).toArray] w fun z w' => z = .returned (.tuple #[.agg (evV e).toArray, .int .i64 x, .int .i64 y]) ∧ Nw w w' := by
  obtain ⟨a, cap, rfl, h1, h2, hel⟩ := hv.elems
  have hmax : l.length ≤ 9223372036854775807 := by unfold maxLen at h2; omega
  have HV := Lib.hid hv
  have HR := Lib.hid hr
  have HE := Lib.hid hel
  clear hv hr h1 h2 hel
  by_cases c0 : at_ < 0
  · have r := HR.out
    unfold getE at r
    rw [if_pos (.inl c0)] at r
    cases r
    clear HV HR HE
    have hz := heap_alloc_new (((w.alloc (.cells #[.slice a l.length cap] 35)).alloc (.cells #[.int .i64 at_] 3)).alloc (.cells (evV h).toArray 73)) (.cells (evV Ev.zero).toArray 73)
    simp only [World.size_alloc] at hz
    obtain ⟨r0, r1, r2, r3, r4, -⟩ := evV_cells hz
    have N := Lib.hid ((((Nw.refl w).alloc (.cells #[.slice a l.length cap] 35)).alloc (.cells #[.int .i64 at_] 3)).alloc (.cells (evV h).toArray 73) |>.alloc (.cells (evV Ev.zero).toArray 73))
    clear hz
    unfold evV Ev.zero at *
    go_enter Tryz.func211, Tryz.ntmps211
    go_wp2
    refine bodyPost_ret (v := .tuple #[.agg #[.int .i64 0, .int .u8 0, .int .i64 0, .int .i64 0, .int .i64 0], .int .i64 0, .int .i64 2]) (by simp [results, Tryz.results211, go_sem, r0, r1, r2, r3, r4]) rfl ⟨rfl, N.out⟩
  by_cases c1 : (l.length : Int) < at_
  · have r := HR.out
    unfold getE at r
    rw [if_pos (.inr c1)] at r
    cases r
    clear HV HR HE
    have hz := heap_alloc_new (((w.alloc (.cells #[.slice a l.length cap] 35)).alloc (.cells #[.int .i64 at_] 3)).alloc (.cells (evV h).toArray 73)) (.cells (evV Ev.zero).toArray 73)
    simp only [World.size_alloc] at hz
    obtain ⟨r0, r1, r2, r3, r4, -⟩ := evV_cells hz
    have N := Lib.hid ((((Nw.refl w).alloc (.cells #[.slice a l.length cap] 35)).alloc (.cells #[.int .i64 at_] 3)).alloc (.cells (evV h).toArray 73) |>.alloc (.cells (evV Ev.zero).toArray 73))
    clear hz
    unfold evV Ev.zero at *
    go_enter Tryz.func211, Tryz.ntmps211
    go_wp2
    refine bodyPost_ret (v := .tuple #[.agg #[.int .i64 0, .int .u8 0, .int .i64 0, .int .i64 0, .int .i64 0], .int .i64 0, .int .i64 2]) (by simp [results, Tryz.results211, go_sem, r0, r1, r2, r3, r4]) rfl ⟨rfl, N.out⟩
  obtain ⟨k, rfl⟩ : ∃ k : Nat, at_ = k := ⟨at_.toNat, by omega⟩
  by_cases c2 : k = l.length
  · subst c2
    have r := HR.out
    unfold getE at r
    rw [if_neg (by omega), if_pos (by omega)] at r
    cases r
    clear HV HR HE
    have hz := heap_alloc_new (((w.alloc (.cells #[.slice a l.length cap] 35)).alloc (.cells #[.int .i64 l.length] 3)).alloc (.cells (evV h).toArray 73)) (.cells (evV Ev.zero).toArray 73)
    simp only [World.size_alloc] at hz
    obtain ⟨r0, r1, r2, r3, r4, -⟩ := evV_cells hz
    have N := Lib.hid ((((Nw.refl w).alloc (.cells #[.slice a l.length cap] 35)).alloc (.cells #[.int .i64 l.length] 3)).alloc (.cells (evV h).toArray 73) |>.alloc (.cells (evV Ev.zero).toArray 73))
    clear hz
    unfold evV Ev.zero at *
    go_enter Tryz.func211, Tryz.ntmps211
    go_wp2
    refine bodyPost_ret (v := .tuple #[.agg #[.int .i64 0, .int .u8 0, .int .i64 0, .int .i64 0, .int .i64 0], .int .i64 0, .int .i64 11]) (by simp [results, Tryz.results211, go_sem, r0, r1, r2, r3, r4]) rfl ⟨rfl, N.out⟩
  have hk : k < l.length := by omega
  obtain ⟨g, o, rfl, hg, hc⟩ := HE.out k hk
  have hc : w.cell? ⟨g, o + k, none⟩ = some (.int .u8 (l[k].toNat : Int)) := hc
  have q1 : ((k : Int) == (l.length : Int)) = false := by simp; omega
  have r := HR.out
  unfold getE at r
  rw [if_neg (by omega), if_neg (by omega)] at r
  have hop : l.getD (k : Int).toNat 0 = l[k] := by simp [List.getD, hk]
  rw [hop] at r
  have R := Lib.hid r
  clear r hop HR HE
  generalize (l[k] : UInt8) = op at *
  have hcA : ∀ o1 o2 o3 o4, ((((w.alloc o1).alloc o2).alloc o3).alloc o4).cell? ⟨g, o + k, none⟩ = some (.int .u8 (op.toNat : Int)) := fun o1 o2 o3 o4 => ((((Nw.refl w).alloc o1).alloc o2).alloc o3 |>.alloc o4).cell hc
  have S0 := Lib.hid (GS.start w (.slice (some ⟨g, o, none⟩) l.length cap) h ⟨0, op, 0, 0, 0⟩ ((k : Int) + 1) 0)
  have hin0 : in64 ((k : Int) + 1) := ⟨by omega, by omega⟩
  unfold evV Ev.zero at S0
  unfold evV
  go_enter Tryz.func211, Tryz.ntmps211
  go_wp2_with fail
  have R0 : Hid (thenI l (0, (k : Int) + 1, 0) = getI l ((k : Int) + 1)) := Lib.hid (by unfold thenI; rw [if_pos rfl])
  refine (S0.out.call HV.out hin0 h.thread 0).mono ?_
  rintro z w1 ⟨rfl, q⟩
  have hin1 := thenI_place (l := l) (r := (0, ((k : Int) + 1), 0)) hin0 hmax
  obtain ⟨⟨m1, x1, y1⟩, hr1⟩ : ∃ r, thenI l (0, ((k : Int) + 1), 0) = r := ⟨_, rfl⟩
  obtain ⟨g1, hg1⟩ : ∃ r, gI l h.thread (0, ((k : Int) + 1), 0) = r := ⟨_, rfl⟩
  rw [hr1] at q hin1
  rw [hg1]
  simp only at q hin1
  have R1 := Lib.hid hr1
  have G1 := Lib.hid hg1
  have Q1 := Lib.hid q
  obtain ⟨c0, c1, c2, c3⟩ := q.cells
  obtain ⟨d0, d1, d2, d3, d4, df⟩ := evV_cells q.b4
  have f0 := df 0
  clear q hr1 hg1 df S0
  have S1 : Hid (GS w (w1.setCell ⟨w.heap.size + 1 + 1 + 1 + 1, 0, none⟩ (.int .i64 g1)) (.slice (some ⟨g, o, none⟩) l.length cap) h x1 y1 ⟨g1, op, 0, 0, 0⟩) := Lib.hid (Q1.out.put 0 _ rfl)
  go_wp2_with fail
  refine (S1.out.call HV.out hin1 h.obj m1).mono ?_
  rintro z w2 ⟨rfl, q⟩
  have hin2 := thenI_place (l := l) (r := (m1, x1, y1)) hin1 hmax
  obtain ⟨⟨m2, x2, y2⟩, hr2⟩ : ∃ r, thenI l (m1, x1, y1) = r := ⟨_, rfl⟩
  obtain ⟨g2, hg2⟩ : ∃ r, gI l h.obj (m1, x1, y1) = r := ⟨_, rfl⟩
  rw [hr2] at q hin2
  rw [hg2]
  simp only at q hin2
  have R2 := Lib.hid hr2
  have G2 := Lib.hid hg2
  have Q2 := Lib.hid q
  obtain ⟨c0, c1, c2, c3⟩ := q.cells
  obtain ⟨d0, d1, d2, d3, d4, df⟩ := evV_cells q.b4
  have f0 := df 2
  clear q hr2 hg2 df S1
  have S2 : Hid (GS w (w2.setCell ⟨w.heap.size + 1 + 1 + 1 + 1, 2, none⟩ (.int .i64 g2)) (.slice (some ⟨g, o, none⟩) l.length cap) h x2 y2 ⟨g1, op, g2, 0, 0⟩) := Lib.hid (Q2.out.put 2 _ rfl)
  go_wp2_with fail
  refine (S2.out.call HV.out hin2 h.a m2).mono ?_
  rintro z w3 ⟨rfl, q⟩
  have hin3 := thenI_place (l := l) (r := (m2, x2, y2)) hin2 hmax
  obtain ⟨⟨m3, x3, y3⟩, hr3⟩ : ∃ r, thenI l (m2, x2, y2) = r := ⟨_, rfl⟩
  obtain ⟨g3, hg3⟩ : ∃ r, gI l h.a (m2, x2, y2) = r := ⟨_, rfl⟩
  rw [hr3] at q hin3
  rw [hg3]
  simp only at q hin3
  have R3 := Lib.hid hr3
  have G3 := Lib.hid hg3
  have Q3 := Lib.hid q
  obtain ⟨c0, c1, c2, c3⟩ := q.cells
  obtain ⟨d0, d1, d2, d3, d4, df⟩ := evV_cells q.b4
  have f0 := df 3
  clear q hr3 hg3 df S2
  have S3 : Hid (GS w (w3.setCell ⟨w.heap.size + 1 + 1 + 1 + 1, 3, none⟩ (.int .i64 g3)) (.slice (some ⟨g, o, none⟩) l.length cap) h x3 y3 ⟨g1, op, g2, g3, 0⟩) := Lib.hid (Q3.out.put 3 _ rfl)
  go_wp2_with fail
  refine (S3.out.call HV.out hin3 h.b m3).mono ?_
  rintro z w4 ⟨rfl, q⟩
  have hin4 := thenI_place (l := l) (r := (m3, x3, y3)) hin3 hmax
  obtain ⟨⟨m4, x4, y4⟩, hr4⟩ : ∃ r, thenI l (m3, x3, y3) = r := ⟨_, rfl⟩
  obtain ⟨g4, hg4⟩ : ∃ r, gI l h.b (m3, x3, y3) = r := ⟨_, rfl⟩
  rw [hr4] at q hin4
  rw [hg4]
  simp only at q hin4
  have R4 := Lib.hid hr4
  have G4 := Lib.hid hg4
  have Q4 := Lib.hid q
  obtain ⟨c0, c1, c2, c3⟩ := q.cells
  obtain ⟨d0, d1, d2, d3, d4, df⟩ := evV_cells q.b4
  have f0 := df 4
  clear q hr4 hg4 df S3
  have S4 : Hid (GS w (w4.setCell ⟨w.heap.size + 1 + 1 + 1 + 1, 4, none⟩ (.int .i64 g4)) (.slice (some ⟨g, o, none⟩) l.length cap) h x4 y4 ⟨g1, op, g2, g3, g4⟩) := Lib.hid (Q4.out.put 4 _ rfl)
  have k5 : w4.cell? ⟨w.heap.size + 1 + 1 + 1 + 1 + 1, 0, none⟩ = some (.int .i64 y4) := by have := Q4.out.b5; simp [World.cell?, this]
  clear Q1 Q2 Q3 Q4
  by_cases hy : y4 = 0
  case neg =>
    have hy1 : (y4 != 0) = true := by simpa using hy
    go_upto_region 14 with fail
    obtain ⟨W4, hW⟩ : ∃ W, w4.setCell ⟨w.heap.size + 1 + 1 + 1 + 1, 4, none⟩ (.int .i64 g4) = W := ⟨_, rfl⟩
    rw [hW] at S4
    simp only [hW]
    obtain ⟨z0, z1, z2, z3, z4, zf⟩ := evV_cells S4.out.b3
    obtain ⟨t0, t1, t2, t3, t4, -⟩ := evV_cells S4.out.b4
    have zf0 := zf 0
    have zf1 := zf 1
    have zf2 := zf 2
    have zf3 := zf 3
    have zf4 := zf 4
    have k6 : W4.cell? ⟨w.heap.size + 1 + 1 + 1 + 1 + 1, 0, none⟩ = some (.int .i64 y4) := by have := S4.out.b5; simp [World.cell?, this]
    have k7 : W4.cell? ⟨w.heap.size + 1, 0, none⟩ = some (.int .i64 x4) := by have := S4.out.b1; simp [World.cell?, this]
    clear hW k5 zf c0 c1 c2 c3 d0 d1 d2 d3 d4 f0 hin1 hin2 hin3 hin4 hcA hc
    go_region
    have hb5 := heap_set5 (w1 := W4) (p := w.heap.size + 1 + 1 + 1) (t := 73) S4.out.b3 (.int .i64 0) (.int .u8 0) (.int .i64 0) (.int .i64 0) (.int .i64 0)
    have ho5 := only_set5 W4 (w.heap.size + 1 + 1 + 1) (.int .i64 0) (.int .u8 0) (.int .i64 0) (.int .i64 0) (.int .i64 0)
    have N := Lib.hid ((S4.out.nw.trans' ho5 (fun k hk hc => by omega)).drew)
    obtain ⟨r0, r1, r2, r3, r4, -⟩ := evV_cells (h := ⟨0, 0, 0, 0, 0⟩) hb5
    clear hb5 ho5
    go_wp2
    refine bodyPost_ret (v := .tuple #[.agg #[.int .i64 0, .int .u8 0, .int .i64 0, .int .i64 0, .int .i64 0], .int .i64 0, .int .i64 y4]) (by simp [results, Tryz.results211, go_sem, r0, r1, r2, r3, r4]) rfl ⟨?_, N.out⟩
    have r := R.out
    rw [← R0.out, R1.out, R2.out, R3.out, R4.out, if_pos hy] at r
    cases r
    rfl
  case pos =>
    subst hy
    go_upto_region 15 with fail
    obtain ⟨W4, hW⟩ : ∃ W, w4.setCell ⟨w.heap.size + 1 + 1 + 1 + 1, 4, none⟩ (.int .i64 g4) = W := ⟨_, rfl⟩
    rw [hW] at S4
    simp only [hW]
    obtain ⟨z0, z1, z2, z3, z4, zf⟩ := evV_cells S4.out.b3
    obtain ⟨t0, t1, t2, t3, t4, -⟩ := evV_cells S4.out.b4
    have zf0 := zf 0
    have zf1 := zf 1
    have zf2 := zf 2
    have zf3 := zf 3
    have zf4 := zf 4
    have k6 : W4.cell? ⟨w.heap.size + 1 + 1 + 1 + 1 + 1, 0, none⟩ = some (.int .i64 0) := by have := S4.out.b5; simp [World.cell?, this]
    have k7 : W4.cell? ⟨w.heap.size + 1, 0, none⟩ = some (.int .i64 x4) := by have := S4.out.b1; simp [World.cell?, this]
    clear hW k5 zf c0 c1 c2 c3 d0 d1 d2 d3 d4 f0 hin1 hin2 hin3 hin4 hcA hc
    go_region
    have hb5 := heap_set5 (w1 := W4) (p := w.heap.size + 1 + 1 + 1) (t := 73) S4.out.b3 (.int .i64 g1) (.int .u8 op.toNat) (.int .i64 g2) (.int .i64 g3) (.int .i64 g4)
    have ho5 := only_set5 W4 (w.heap.size + 1 + 1 + 1) (.int .i64 g1) (.int .u8 op.toNat) (.int .i64 g2) (.int .i64 g3) (.int .i64 g4)
    have N := Lib.hid ((S4.out.nw.trans' ho5 (fun k hk hc => by omega)).drew)
    obtain ⟨r0, r1, r2, r3, r4, -⟩ := evV_cells (h := ⟨g1, op, g2, g3, g4⟩) hb5
    clear hb5 ho5
    go_wp2
    refine bodyPost_ret (v := .tuple #[.agg #[.int .i64 g1, .int .u8 op.toNat, .int .i64 g2, .int .i64 g3, .int .i64 g4], .int .i64 x4, .int .i64 0]) (by simp [results, Tryz.results211, go_sem, r0, r1, r2, r3, r4]) rfl ⟨?_, N.out⟩
    have r := R.out
    have f3 := (thenI_fine (b := l) (r := (m3, x3, y3)) (by rw [R4.out])).1
    simp only at f3
    subst f3
    have f2 := (thenI_fine (b := l) (r := (m2, x2, y2)) (by rw [R3.out])).1
    simp only at f2
    subst f2
    have f1 := (thenI_fine (b := l) (r := (m1, x1, y1)) (by rw [R2.out])).1
    simp only at f1
    subst f1
    have e2 : getI l x1 = (m2, x2, 0) := by have := R2.out; unfold thenI at this; rwa [if_pos rfl] at this
    have e3 : getI l x2 = (m3, x3, 0) := by have := R3.out; unfold thenI at this; rwa [if_pos rfl] at this
    have e4 : getI l x3 = (m4, x4, 0) := by have := R4.out; unfold thenI at this; rwa [if_pos rfl] at this
    have h1 := G1.out
    have h2 := G2.out
    have h3 := G3.out
    have h4 := G4.out
    unfold gI at h1 h2 h3 h4
    rw [if_pos rfl] at h1 h2 h3 h4
    simp only at h1 h2 h3 h4
    rw [← R0.out, R1.out] at h1
    rw [e2] at h2
    rw [e3] at h3
    rw [e4] at h4
    rw [← R0.out, R1.out, R2.out, R3.out, R4.out, if_neg (by simp)] at r
    simp only at r h1 h2 h3 h4
    rw [h1, h2, h3, h4] at r
    cases r
    rfl
end Go.Proofs.YtjapijndljknnaaGreatDoor
