/-
  Texts merged by a program of this claim's: EventA, EventB.
-/
import Derived.Test.YtjapijndljknnaaGreatDoorM11
/-
  Package event, walked: Put, Frame.
-/
namespace Go.Proofs.YtjapijndljknnaaGreatDoor
open Go Go.RowKit Go.Sort
set_option maxRecDepth 100000
set_option maxHeartbeats 1600000

def evV (e : Ev) : List Value := [.int .i64 e.thread, .int .u8 e.op.toNat, .int .i64 e.obj, .int .i64 e.a, .int .i64 e.b]
/-- What the closure 'more' does: the bytes in the box p grow. -/
def MoreB (p : Nat) (v : Value) (w : World) (l : List UInt8) (e : Ending) (w' : World) : Prop :=
  e = .returned (.tuple #[]) ∧ ∃ v', w'.heap[p]? = some (.cells #[v'] 35 (0, 0)) ∧ Vec 1 w' v' l.length (l.map u8) ∧ Only (fun k => v.ownBlock = some k ∨ k = p) w w' ∧ (v'.ownBlock = v.ownBlock ∨ ∀ g, v'.ownBlock = some g → w.heap.size ≤ g)

theorem Put1_ok {w : World} {v : Value} {l : List UInt8} (p : Nat) (hp : w.heap[p]? = some (.cells #[v] 35 (0, 0))) (hv : Vec 1 w v l.length (l.map u8)) (hne : v.ownBlock ≠ some p) (a b : Int) (_ha : in64 a) (_hb : in64 b) (hl : l.length ≤ 90000000) :
    Calls Tryz.prog 159 #[.int .i64 a, .int .i64 b, .pointer (some ⟨p, 0, none⟩)] w (MoreB p v w (l ++ intB (w64 (b - a)))) := by
  have c0 : w.cell? ⟨p, 0, none⟩ = some v := by simp [World.cell?, hp]
  have f0 : w.frozen? ⟨p, 0, none⟩ = false := by simp [World.frozen?, hp]
  have HV := Lib.hid hv
  have HP := Lib.hid hp
  have HNE := Lib.hid hne
  obtain ⟨sa, sc, rfl, -⟩ := hv.len
  have hw : IntKind.i64.wrap (b - a) = w64 (b - a) := by rw [IntKind.wrap_i64]; rfl
  have hin := w64_in (b - a)
  clear hv hp hne _ha _hb
  generalize hx : w64 (b - a) = x at *
  clear hx
  go_enter Tryz.func159, Tryz.ntmps159
  go_wp2_with fail
  refine (Int_ok HV.out x hin.1 hin.2 (by omega)).mono ?_
  rintro e w1 ⟨v1, rfl, q1, q2, q3⟩
  generalize l ++ intB x = l1 at *
  obtain ⟨xa, xc, rfl, -⟩ := q1.len
  have hp1 : w1.heap[p]? = some (.cells #[.slice sa l.length sc] 35 (0, 0)) := q2.at_ HP.out HNE.out
  have g1 : w1.cell? ⟨p, 0, none⟩ = some (.slice sa l.length sc) := by simp [World.cell?, hp1]
  have g2 : w1.frozen? ⟨p, 0, none⟩ = false := by simp [World.frozen?, hp1]
  have hpl : p < w.heap.size := lt_of_block HP.out
  have hne1 : (Value.slice xa l1.length xc).ownBlock ≠ some p := fun hc => by
    rcases q3 with h | h
    · exact HNE.out (h ▸ hc)
    · have := h p hc; omega
  have HP1 := Lib.hid hp1
  have Q := Lib.hid (And.intro q1 (And.intro q2 q3))
  have HN1 := Lib.hid hne1
  clear q1 q2 q3 hp1 hne1
  go_wp2
  refine bodyPost_ret (v := .tuple #[]) (results_none rfl _ _ _) rfl ⟨rfl, _, one_setCell HP1.out, ?_, ?_, Q.out.2.2⟩
  · refine Q.out.1.keep (by simp) fun g hg => ?_
    exact Below.heap_setCell _ _ _ _ (fun e => HN1.out (by rw [hg, e]))
  · exact Only.setCell (Q.out.2.1.mono fun k _ hk => .inl hk) (fun _ => .inr rfl) _

structure PutS (w : World) (v : Value) (h e : Ev) (l : List UInt8) (w1 : World) : Prop where
  box : ∃ v1, w1.heap[w.heap.size]? = some (.cells #[v1] 35 (0, 0)) ∧ Vec 1 w1 v1 l.length (l.map u8) ∧ (v1.ownBlock = v.ownBlock ∨ ∀ g, v1.ownBlock = some g → w.heap.size + 3 ≤ g)
  hd : w1.heap[w.heap.size + 1]? = some (.cells (evV h).toArray 73 (0, 0))
  ev : w1.heap[w.heap.size + 1 + 1]? = some (.cells (evV e).toArray 73 (0, 0))
  only : Only (fun k => v.ownBlock = some k) w w1
  lt : w.heap.size + 3 ≤ w1.heap.size
theorem PutS.cells {w : World} {v : Value} {h e : Ev} {l : List UInt8} {w1 : World} (H : PutS w v h e l w1) :
    w1.cell? ⟨w.heap.size + 1, 0, none⟩ = some (.int .i64 h.thread) ∧ w1.cell? ⟨w.heap.size + 1, 2, none⟩ = some (.int .i64 h.obj) ∧ w1.cell? ⟨w.heap.size + 1, 3, none⟩ = some (.int .i64 h.a) ∧ w1.cell? ⟨w.heap.size + 1, 4, none⟩ = some (.int .i64 h.b) ∧
    w1.cell? ⟨w.heap.size + 1 + 1, 0, none⟩ = some (.int .i64 e.thread) ∧ w1.cell? ⟨w.heap.size + 1 + 1, 2, none⟩ = some (.int .i64 e.obj) ∧ w1.cell? ⟨w.heap.size + 1 + 1, 3, none⟩ = some (.int .i64 e.a) ∧ w1.cell? ⟨w.heap.size + 1 + 1, 4, none⟩ = some (.int .i64 e.b) := by
  have h1 := H.hd
  have h2 := H.ev
  simp [World.cell?, h1, h2, evV]
theorem PutS.more {w : World} {v : Value} {h e : Ev} {l : List UInt8} {w1 : World} (H : PutS w v h e l w1) (hv : ∀ g, v.ownBlock = some g → g < w.heap.size) (a b : Int) (ha : in64 a) (hb : in64 b) (hl : l.length ≤ 90000000) :
    Calls Tryz.prog 159 #[.int .i64 a, .int .i64 b, .pointer (some ⟨w.heap.size, 0, none⟩)] w1 fun x w2 => x = .returned (.tuple #[]) ∧ PutS w v h e (l ++ intB (w64 (b - a))) w2 := by
  obtain ⟨v1, h1, h2, h3⟩ := H.box
  have hlt := H.lt
  have hno : ∀ g, v1.ownBlock = some g → g ≠ w.heap.size ∧ g ≠ w.heap.size + 1 ∧ g ≠ w.heap.size + 1 + 1 := fun g hg => by
    rcases h3 with h | h
    · have := hv g (h ▸ hg); omega
    · have := h g hg; omega
  refine (Put1_ok w.heap.size h1 h2 (fun hc => (hno _ hc).1 rfl) a b ha hb hl).mono ?_
  rintro x w2 ⟨rfl, v2, q1, q2, q3, q4⟩
  have hno2 : ∀ k, k = w.heap.size + 1 ∨ k = w.heap.size + 1 + 1 → ¬ (v1.ownBlock = some k ∨ k = w.heap.size) := by
    rintro k hk (hc | hc)
    · have := hno k hc; omega
    · omega
  refine ⟨rfl, ⟨v2, q1, q2, ?_⟩, q3.at_ H.hd (hno2 _ (.inl rfl)), q3.at_ H.ev (hno2 _ (.inr rfl)), ?_, Nat.le_trans hlt q3.size⟩
  · rcases q4 with h | h
    · rw [h]; exact h3
    · exact .inr fun g hg => Nat.le_trans hlt (h g hg)
  · refine H.only.trans' q3 fun k hk hc => ?_
    rcases hc with hc | hc
    · rcases h3 with h | h
      · exact h ▸ hc
      · have := h k hc; omega
    · omega
theorem Put_ok {w : World} {v : Value} {l : List UInt8} (hv : Vec 1 w v l.length (l.map u8)) (h e : Ev) (hh : h.Ok) (he : e.Ok) (hl : l.length ≤ 80000000) :
    Calls Tryz.prog 130 #[v, .agg (evV h).toArray, .agg (evV e).toArray] w (GrowB v w (l ++ putE h e)) := by
  have HV := Lib.hid hv
  have hlt := hv.lt
  obtain ⟨sa, sc, rfl, -⟩ := hv.len
  clear hv
  obtain ⟨i0, hi, hz0, hz1, hz2⟩ := info_parts infoU8
  have HI := Lib.hid hi
  have HZ0 := Lib.hid hz0
  have HZ1 := Lib.hid hz1
  have HZ2 := Lib.hid hz2
  clear hi hz0 hz1 hz2
  have HLT := Lib.hid hlt
  clear hlt
  have HH := Lib.hid hh
  have HE := Lib.hid he
  clear hh he
  have hz : ∀ g, sa.map (·.block) = some g → True := fun _ _ => trivial
  clear hz
  go_enter Tryz.func130, Tryz.ntmps130
  have hn3 : Nw w (((w.alloc (.cells #[.slice sa l.length sc] 35 (0, 0))).alloc (.cells (evV h).toArray 73 (0, 0))).alloc (.cells (evV e).toArray 73 (0, 0))) := (((Nw.refl w).alloc _).alloc _).alloc _
  have hn4 := hn3.alloc (.cells #[.int .u8 e.op.toNat] 5 (0, 0))
  have V4 := Lib.hid (HV.out.nw hn4)
  have s4 := src_lit (((w.alloc (.cells #[.slice sa l.length sc] 35 (0, 0))).alloc (.cells (evV h).toArray 73 (0, 0))).alloc (.cells (evV e).toArray 73 (0, 0))) 5 (0, 0) 1 1 1 [.int .u8 e.op.toNat] rfl (by omega) (by decide)
  simp only [World.size_alloc] at s4
  have X4 := Lib.hid s4
  have B4 : Hid (∃ W4, W4 = (((w.alloc (.cells #[.slice sa l.length sc] 35 (0, 0))).alloc (.cells (evV h).toArray 73 (0, 0))).alloc (.cells (evV e).toArray 73 (0, 0))).alloc (.cells #[.int .u8 e.op.toNat] 5 (0, 0)) ∧
      W4.heap[w.heap.size]? = some (.cells #[.slice sa l.length sc] 35 (0, 0)) ∧ W4.heap[w.heap.size + 1]? = some (.cells (evV h).toArray 73 (0, 0)) ∧ W4.heap[w.heap.size + 1 + 1]? = some (.cells (evV e).toArray 73 (0, 0)) ∧ w.heap.size + 3 ≤ W4.heap.size ∧ Nw w W4) := by
    refine ⟨_, rfl, ?_, ?_, ?_, by simp, hn4⟩
    · exact heap_alloc_old _ _ (by simp; omega) |>.trans (heap_alloc_old _ _ (by simp; omega) |>.trans (heap_alloc_old _ _ (by simp) |>.trans (heap_alloc_new w _)))
    · have := heap_alloc_new (w.alloc (.cells #[.slice sa l.length sc] 35 (0, 0))) (.cells (evV h).toArray 73 (0, 0))
      exact heap_alloc_old _ _ (by simp) |>.trans (heap_alloc_old _ _ (by simp) |>.trans (by simpa using this))
    · have := heap_alloc_new ((w.alloc (.cells #[.slice sa l.length sc] 35 (0, 0))).alloc (.cells (evV h).toArray 73 (0, 0))) (.cells (evV e).toArray 73 (0, 0))
      exact heap_alloc_old _ _ (by simp) |>.trans (by simpa using this)
  clear hn3 hn4 s4
  unfold evV at V4 X4 B4 ⊢
  go_wp2_with (at_builtin; refine wpList_append_vec rfl _ _ 35 rfl 5 i0 (.int .u8 0) 1 1 Tryz.underlying35 HI.out HZ0.out HZ1.out HZ2.out rfl (by decide) rfl rfl V4.out X4.out ?c1 ?c2 ?c3 ?_)
  case c1 => exact fun u hu => by rw [List.mem_singleton] at hu; subst hu; rfl
  case c2 => unfold maxLen; omega
  case c3 => omega
  intro v1 w2 q1 q2 q3
  obtain ⟨xa, xc, rfl, -⟩ := q1.len
  obtain ⟨W4, hW4, b0, b1, b2, b3, b4⟩ := B4.out
  rw [← hW4] at q2
  have hv0 : ∀ g, (Value.slice sa l.length sc).ownBlock = some g → g < w.heap.size := HLT.out
  have c0 : w2.cell? ⟨w.heap.size, 0, none⟩ = some (.slice sa l.length sc) := by
    have := q2.at_ b0 (fun hc => by have := hv0 _ hc; omega)
    simp [World.cell?, this]
  have f0 : w2.frozen? ⟨w.heap.size, 0, none⟩ = false := by
    have := q2.at_ b0 (fun hc => by have := hv0 _ hc; omega)
    simp [World.frozen?, this]
  have S0 : Hid (PutS w (.slice sa l.length sc) h e (l ++ [e.op]) (w2.setCell ⟨w.heap.size, 0, none⟩ (.slice xa (l.length + 1) xc))) := by
    have hne : (Value.slice xa (l.length + 1) xc).ownBlock ≠ some w.heap.size := fun hc => by
      rcases q3 with h | h
      · have := hv0 _ (h ▸ hc); omega
      · have := h _ hc; omega
    refine ⟨⟨_, one_setCell (q2.at_ b0 (fun hc => by have := hv0 _ hc; omega)), ?_, ?_⟩, ?_, ?_, ?_, ?_⟩
    · refine Vec.keep (w := w2) ?_ (by simp) fun g hg => Below.heap_setCell _ _ _ _ (fun e => hne (by rw [hg, e]))
      rw [List.map_append, List.length_append]
      exact q1
    · exact q3.imp id fun h g hg => by have := h g hg; omega
    · rw [Below.heap_setCell _ _ _ _ (by simp)]
      exact q2.at_ b1 (fun hc => by have := hv0 _ hc; omega)
    · rw [Below.heap_setCell _ _ _ _ (by simp; omega)]
      exact q2.at_ b2 (fun hc => by have := hv0 _ hc; omega)
    · exact Only.setCell (b4.only.trans' q2 (fun k _ hk => hk)) (fun h => absurd h (by simp)) _
    · have := q2.size; simp; omega
  have L0 : Hid ((l ++ [e.op]).length ≤ l.length + 1) := Lib.hid (by simp)
  obtain ⟨va, hva⟩ : ∃ W, w2.setCell ⟨w.heap.size, 0, none⟩ (.slice xa (l.length + 1) xc) = W := ⟨_, rfl⟩
  rw [hva] at S0
  have HVA := Lib.hid hva
  clear hva q1 q2 q3 b0 b1 b2 b3 b4 hW4 hv0 B4 V4 X4
  obtain ⟨l0, hl0⟩ : ∃ l0, l0 = l ++ [e.op] := ⟨_, rfl⟩
  rw [← hl0] at S0 L0
  have E0 := Lib.hid hl0
  clear hl0
  obtain ⟨h0, h2, h3, h4, e0, e2, e3, e4⟩ := S0.out.cells
  rw [← HVA.out] at S0 h0 h2 h3 h4 e0 e2 e3 e4
  clear HVA va
  go_wp2_with fail
  refine (S0.out.more HLT.out h.thread e.thread HH.out.thread HE.out.thread (by have := L0.out; omega)).mono ?_
  rintro x w1 ⟨rfl, q⟩
  have S1 := Lib.hid q
  have L1 : Hid ((l0 ++ intB (w64 (e.thread - h.thread))).length ≤ l.length + 11) := by
    have h1 := L0.out
    have h2 := intB_len (w64_in (e.thread - h.thread))
    show _ ≤ _
    rw [List.length_append]; omega
  have E1 : Hid (l0 ++ intB (w64 (e.thread - h.thread)) = (l ++ [e.op]) ++ intB (w64 (e.thread - h.thread))) := by show _ = _; rw [E0.out]
  clear q S0
  generalize l0 ++ intB (w64 (e.thread - h.thread)) = l1 at S1 L1 E1
  obtain ⟨h0, h2, h3, h4, e0, e2, e3, e4⟩ := S1.out.cells
  go_wp2_with fail
  refine (S1.out.more HLT.out h.obj e.obj HH.out.obj HE.out.obj (by have := L1.out; omega)).mono ?_
  rintro x w2 ⟨rfl, q⟩
  have S2 := Lib.hid q
  have L2 : Hid ((l1 ++ intB (w64 (e.obj - h.obj))).length ≤ l.length + 21) := by
    have h1 := L1.out
    have h2 := intB_len (w64_in (e.obj - h.obj))
    show _ ≤ _
    rw [List.length_append]; omega
  have E2 : Hid (l1 ++ intB (w64 (e.obj - h.obj)) = ((l ++ [e.op]) ++ intB (w64 (e.thread - h.thread))) ++ intB (w64 (e.obj - h.obj))) := by show _ = _; rw [E1.out]
  clear q S1
  generalize l1 ++ intB (w64 (e.obj - h.obj)) = l2 at S2 L2 E2
  obtain ⟨h0, h2, h3, h4, e0, e2, e3, e4⟩ := S2.out.cells
  go_wp2_with fail
  refine (S2.out.more HLT.out h.a e.a HH.out.a HE.out.a (by have := L2.out; omega)).mono ?_
  rintro x w3 ⟨rfl, q⟩
  have S3 := Lib.hid q
  have L3 : Hid ((l2 ++ intB (w64 (e.a - h.a))).length ≤ l.length + 31) := by
    have h1 := L2.out
    have h2 := intB_len (w64_in (e.a - h.a))
    show _ ≤ _
    rw [List.length_append]; omega
  have E3 : Hid (l2 ++ intB (w64 (e.a - h.a)) = (((l ++ [e.op]) ++ intB (w64 (e.thread - h.thread))) ++ intB (w64 (e.obj - h.obj))) ++ intB (w64 (e.a - h.a))) := by show _ = _; rw [E2.out]
  clear q S2
  generalize l2 ++ intB (w64 (e.a - h.a)) = l3 at S3 L3 E3
  obtain ⟨h0, h2, h3, h4, e0, e2, e3, e4⟩ := S3.out.cells
  go_wp2_with fail
  refine (S3.out.more HLT.out h.b e.b HH.out.b HE.out.b (by have := L3.out; omega)).mono ?_
  rintro x w4 ⟨rfl, q⟩
  have S4 := Lib.hid q
  have L4 : Hid ((l3 ++ intB (w64 (e.b - h.b))).length ≤ l.length + 41) := by
    have h1 := L3.out
    have h2 := intB_len (w64_in (e.b - h.b))
    show _ ≤ _
    rw [List.length_append]; omega
  have E4 : Hid (l3 ++ intB (w64 (e.b - h.b)) = ((((l ++ [e.op]) ++ intB (w64 (e.thread - h.thread))) ++ intB (w64 (e.obj - h.obj))) ++ intB (w64 (e.a - h.a))) ++ intB (w64 (e.b - h.b))) := by show _ = _; rw [E3.out]
  clear q S3
  generalize l3 ++ intB (w64 (e.b - h.b)) = l4 at S4 L4 E4
  obtain ⟨h0, h2, h3, h4, e0, e2, e3, e4⟩ := S4.out.cells
  have HF : Hid (l ++ putE h e = l4) := by
    show _ = _
    rw [E4.out]
    simp [putE]
  obtain ⟨v4, d1, d2, d3⟩ := S4.out.box
  have c4 : w4.cell? ⟨w.heap.size, 0, none⟩ = some v4 := by simp [World.cell?, d1]
  obtain ⟨za, zc, rfl, -⟩ := d2.len
  have D2 := Lib.hid (And.intro d2 d3)
  clear d1 d2 d3 h0 h2 h3 h4 e0 e2 e3 e4
  go_wp2
  go_ret
  refine ⟨_, rfl, ?_, S4.out.only, D2.out.2.imp id fun h g hg => by have := h g hg; omega⟩
  rw [HF.out]; exact D2.out.1
end Go.Proofs.YtjapijndljknnaaGreatDoor

/-
  Package event, walked: Frame.
-/
namespace Go.Proofs.YtjapijndljknnaaGreatDoor
open Go Go.RowKit Go.Sort
set_option maxRecDepth 100000
set_option maxHeartbeats 1600000

/-- Events that can be read: five cells each. -/
structure Evs (w : World) (v : Value) (l : List Ev) : Prop where
  src : SrcV 5 w v l.length (l.flatMap evV)
  ok : ∀ e ∈ l, e.Ok
theorem flat_cell : ∀ (l : List Ev) (i : Nat) (h : i < l.length) (j : Nat) (_hj : j < 5), (l.flatMap evV)[i * 5 + j]? = (evV l[i])[j]?
  | e :: l, 0, _, j, hj => by
    rw [List.flatMap_cons, Nat.zero_mul, Nat.zero_add, List.getElem?_append_left (by simpa [evV] using hj)]; rfl
  | e :: l, i + 1, h, j, hj => by
    have ih := flat_cell l i (by simpa using h) j hj
    rw [List.flatMap_cons, List.getElem?_append_right (by simp [evV]; omega), show (i + 1) * 5 + j - (evV e).length = i * 5 + j by simp [evV]; omega, ih]
    rfl
theorem Evs.nw {w w' : World} {v : Value} {l : List Ev} (h : Evs w v l) (hw : Nw w w') : Evs w' v l := ⟨h.src.nw hw, h.ok⟩
theorem Evs.elem {w : World} {v : Value} {l : List Ev} (h : Evs w v l) : ∃ a cap, v = .slice a l.length cap ∧ l.length ≤ maxLen ∧ ∀ i (hi : i < l.length), ∃ g o, a = some ⟨g, o, none⟩ ∧ g < w.heap.size ∧
    w.cell? ⟨g, o + i * 5, none⟩ = some (.int .i64 l[i].thread) ∧ w.cell? ⟨g, o + i * 5 + 1, none⟩ = some (.int .u8 l[i].op.toNat) ∧ w.cell? ⟨g, o + i * 5 + 2, none⟩ = some (.int .i64 l[i].obj) ∧
    w.cell? ⟨g, o + i * 5 + 3, none⟩ = some (.int .i64 l[i].a) ∧ w.cell? ⟨g, o + i * 5 + 4, none⟩ = some (.int .i64 l[i].b) := by
  obtain ⟨⟨h0, ⟨a, rfl, hn⟩ | ⟨g, o, cap, rfl, h1, h2, h3, h4⟩⟩, -⟩ := h
  · exact ⟨a, 0, by rw [hn], by simp [hn], fun i hi => by omega⟩
  · refine ⟨_, cap, rfl, by omega, fun i hi => ⟨g, o, rfl, h3, ?_⟩⟩
    have key : ∀ j (hj : j < 5), w.cell? ⟨g, o + i * 5 + j, none⟩ = (evV l[i])[j]? := fun j hj => by
      have e := flat_cell l i hi j hj
      have hlt : i * 5 + j < (l.flatMap evV).length := by rw [h0]; omega
      have := h4 (i * 5 + j) hlt
      rw [← Nat.add_assoc] at this
      rw [this, ← e, List.getElem?_eq_getElem hlt]
    refine ⟨key 0 (by omega), key 1 (by omega), key 2 (by omega), key 3 (by omega), key 4 (by omega)⟩

theorem heap_set5 {w1 : World} {p : Nat} {a0 b0 c0 d0 e0 : Value} {t : TypeId} (h : w1.heap[p]? = some (.cells #[a0, b0, c0, d0, e0] t (0, 0))) (a b c d e : Value) :
    (((((w1.setCell ⟨p, 0, none⟩ a).setCell ⟨p, 1, none⟩ b).setCell ⟨p, 2, none⟩ c).setCell ⟨p, 3, none⟩ d).setCell ⟨p, 4, none⟩ e).heap[p]? = some (.cells #[a, b, c, d, e] t (0, 0)) := by
  have := heap_setCell_at (heap_setCell_at (heap_setCell_at (heap_setCell_at (heap_setCell_at h 0 a) 1 b) 2 c) 3 d) 4 e
  simpa using this
theorem only_set5 (w1 : World) (p : Nat) (a b c d e : Value) : Only (fun k => k = p) w1 (((((w1.setCell ⟨p, 0, none⟩ a).setCell ⟨p, 1, none⟩ b).setCell ⟨p, 2, none⟩ c).setCell ⟨p, 3, none⟩ d).setCell ⟨p, 4, none⟩ e) :=
by
  refine Only.setCell (S := fun k => k = p) (p := ⟨p, 4, none⟩) ?_ (fun _ => rfl) e
  refine Only.setCell (S := fun k => k = p) (p := ⟨p, 3, none⟩) ?_ (fun _ => rfl) d
  refine Only.setCell (S := fun k => k = p) (p := ⟨p, 2, none⟩) ?_ (fun _ => rfl) c
  refine Only.setCell (S := fun k => k = p) (p := ⟨p, 1, none⟩) ?_ (fun _ => rfl) b
  exact Only.setCell (S := fun k => k = p) (p := ⟨p, 0, none⟩) (Only.refl w1) (fun _ => rfl) a
theorem evV_cells {w : World} {p : Nat} {h : Ev} {t : TypeId} (hb : w.heap[p]? = some (.cells (evV h).toArray t (0, 0))) :
    w.cell? ⟨p, 0, none⟩ = some (.int .i64 h.thread) ∧ w.cell? ⟨p, 1, none⟩ = some (.int .u8 h.op.toNat) ∧ w.cell? ⟨p, 2, none⟩ = some (.int .i64 h.obj) ∧ w.cell? ⟨p, 3, none⟩ = some (.int .i64 h.a) ∧ w.cell? ⟨p, 4, none⟩ = some (.int .i64 h.b) ∧
    ∀ i, w.frozen? ⟨p, i, none⟩ = false := by
  simp [World.cell?, World.frozen?, hb, evV]
theorem lastE_ok {h : Ev} {l : List Ev} (hh : h.Ok) (hl : ∀ e ∈ l, e.Ok) : (lastE h l).Ok := by
  unfold lastE
  rw [List.getLastD_eq_getLast?]
  cases hc : l.getLast? with
  | none => exact hh
  | some e => exact hl e (List.mem_of_getLast? hc)
theorem zero_ok : Ev.zero.Ok := ⟨by unfold in64 Ev.zero; simp, by unfold in64 Ev.zero; simp, by unfold in64 Ev.zero; simp, by unfold in64 Ev.zero; simp⟩

theorem Frame_ok {w : World} {v : Value} {l : List Ev} (hv : Evs w v l) (h0 : l.length ≠ 0) (h1 : l.length ≤ 4096) :
    Calls Tryz.prog 88 #[v] w fun e w' => ∃ v', e = .returned (.tuple #[v', .int .i64 0]) ∧ Vec 1 w' v' (frmB l).length ((frmB l).map u8) ∧ Nw w w' ∧ ∀ g, v'.ownBlock = some g → w.heap.size ≤ g := by
  obtain ⟨a, cap, rfl, -, hel⟩ := hv.elem
  have HE := Lib.hid hel
  have HOK := Lib.hid hv.ok
  clear hel hv
  obtain ⟨n, hn⟩ : ∃ n, l.length = n := ⟨_, rfl⟩
  rw [hn] at h0 h1 ⊢
  have HN := Lib.hid hn
  clear hn
  go_enter Tryz.func88, Tryz.ntmps88
  go_wp2_with fail
  refine (Uint_ok (l := []) Vec.nil n (by omega) (by simp)).mono ?_
  rintro e w1 ⟨v1, rfl, q1, q2, q3⟩
  have G1 : Hid (Vec 1 w1 v1 (uintB n).length ((uintB n).map u8) ∧ Nw w w1 ∧ ∀ g, v1.ownBlock = some g → w.heap.size ≤ g ∧ g < w1.heap.size) := Lib.hid (by
    refine ⟨by simpa using q1, q2.mono (fun k _ hk => by cases hk), fun g hg => ⟨?_, q1.lt g hg⟩⟩
    rcases q3 with h | h
    · rw [h] at hg; cases hg
    · exact h g hg)
  clear q1 q2 q3
  go_wp2
  go_loopw [4, 22] (fun b i wr => ∃ (k : Nat), k ≤ n ∧ i = .int .i64 k ∧ Vec 1 wr b (uintB n ++ putL Ev.zero (l.take k)).length ((uintB n ++ putL Ev.zero (l.take k)).map u8) ∧ Nw w wr ∧ (∀ g, b.ownBlock = some g → w.heap.size ≤ g ∧ g ≠ w1.heap.size) ∧
    wr.heap[w1.heap.size]? = some (.cells (evV (lastE Ev.zero (l.take k))).toArray 73 (0, 0))) (fun _ i _ => n - (intOf i).toNat)
  case atStart =>
    refine ⟨0, by omega, rfl, ?_, G1.out.2.1.alloc _, fun g hg => ?_, ?_⟩
    · have := G1.out.1.nw ((Nw.refl w1).alloc (.cells #[.int .i64 0, .int .u8 0, .int .i64 0, .int .i64 0, .int .i64 0] 73 (0, 0)))
      simpa [putL] using this
    · have := G1.out.2.2 g hg; omega
    · simpa [lastE, evV, Ev.zero] using heap_alloc_new w1 (.cells #[.int .i64 0, .int .u8 0, .int .i64 0, .int .i64 0, .int .i64 0] 73 (0, 0))
  case round =>
    obtain ⟨k, hk, rfl, hb, hw, hf, hbox⟩ := hrel
    have hlen : (uintB n ++ putL Ev.zero (l.take k)).length ≤ 41 * k + 10 := by
      have h1 := putL_len (l.take k) Ev.zero
      have h2 := uintB_len n 10 (by omega) (Nat.lt_trans (show n < 2 ^ 64 by omega) (by decide))
      rw [List.length_append]
      have h3 : (l.take k).length ≤ k := by simp; omega
      omega
    by_cases hlt : k < n
    · have hkl : k < l.length := by rw [HN.out]; exact hlt
      obtain ⟨g, o, rfl, hg, c0, c1, c2, c3, c4⟩ := HE.out k hkl
      have d0 := hw.cell c0
      have d1 := hw.cell c1
      have d2 := hw.cell c2
      have d3 := hw.cell c3
      have d4 := hw.cell c4
      have hg' := Nat.lt_of_lt_of_le hg hw.size
      have hsnoc : l.take (k + 1) = l.take k ++ [l[k]] := List.take_succ_eq_append_getElem hkl
      have HB1 : Hid (uintB n ++ putL Ev.zero (l.take (k + 1)) = (uintB n ++ putL Ev.zero (l.take k)) ++ putE (lastE Ev.zero (l.take k)) l[k]) := Lib.hid (by rw [hsnoc, putL_snoc, List.append_assoc])
      have HB2 : Hid (lastE Ev.zero (l.take (k + 1)) = l[k]) := Lib.hid (by rw [hsnoc]; unfold lastE; rw [List.getLastD_eq_getLast?, List.getLast?_append]; rfl)
      have HO1 : Hid (lastE Ev.zero (l.take k)).Ok := Lib.hid (lastE_ok zero_ok fun e he => HOK.out e (List.mem_of_mem_take he))
      have HO2 : Hid (l[k] : Ev).Ok := Lib.hid (HOK.out _ (List.getElem_mem hkl))
      obtain ⟨b2, hb2⟩ : ∃ b2, b2 = uintB n ++ putL Ev.zero (l.take (k + 1)) := ⟨_, rfl⟩
      have HBX := Lib.hid hb2
      rw [← hb2] at HB1
      clear hb2
      generalize uintB n ++ putL Ev.zero (l.take k) = b1 at hb hlen HB1
      generalize lastE Ev.zero (l.take k) = h1 at hbox HB1 HO1
      obtain ⟨x, hx⟩ : ∃ x, x = lastE Ev.zero (l.take (k + 1)) := ⟨_, rfl⟩
      have HLX := Lib.hid hx
      have hx2 : (l[k] : Ev) = x := by rw [hx, HB2.out]
      rw [hx2] at HB1 HO2 d0 d1 d2 d3 d4
      clear HB2 hx2 hx c0 c1 c2 c3 c4 hsnoc hkl hg
      obtain ⟨x0, x1, x2, x3, x4, -⟩ := evV_cells hbox
      have hbl : w1.heap.size < wr.heap.size := lt_of_block hbox
      have hown := hb.lt
      obtain ⟨sa, sc, rfl, -⟩ := hb.len
      have V1 := Lib.hid (And.intro hb (And.intro hw (And.intro hf hbox)))
      have OW := Lib.hid hown
      clear hb hw hf hbox hown
      have LN := Lib.hid hlen
      clear hlen
      go_wp2_with fail
      have hn1 := (Nw.refl wr).alloc (.cells (evV x).toArray 73 (0, 0))
      refine (Put_ok (V1.out.1.nw hn1) h1 x HO1.out HO2.out (by have := LN.out; omega)).mono ?_
      rintro e w2 ⟨v2, rfl, q1, q2, q3⟩
      have hM : w2.heap[wr.heap.size]? = some (.cells (evV x).toArray 73 (0, 0)) := q2.at_ (heap_alloc_new wr _) (fun hc => by have := OW.out _ hc; omega)
      have hN0 : w2.heap[w1.heap.size]? = some (.cells (evV h1).toArray 73 (0, 0)) := q2.at_ (hn1.at_ V1.out.2.2.2) (fun hc => (V1.out.2.2.1 _ hc).2 rfl)
      obtain ⟨y0, y1, y2, y3, y4, -⟩ := evV_cells hM
      obtain ⟨z0, z1, z2, z3, z4, zf⟩ := evV_cells hN0
      have f0 := zf 0
      have f1 := zf 1
      have f2 := zf 2
      have f3 := zf 3
      have f4 := zf 4
      obtain ⟨ta, tc, rfl, -⟩ := q1.len
      have Q := Lib.hid (And.intro q1 (And.intro q2 q3))
      have HN0 := Lib.hid hN0
      clear q1 q2 q3 hM hN0 zf x0 x1 x2 x3 x4 d0 d1 d2 d3 d4
      have HB1' := HB1.out
      rw [← HB1'] at Q
      clear HB1'
      have hq : (b1 ++ putE h1 x).length = b2.length := by rw [HB1.out]
      rw [hq]
      clear hq
      go_wp2
      go_roundw
      case rel =>
        have hs5 := only_set5 w2 w1.heap.size (.int .i64 x.thread) (.int .u8 x.op.toNat) (.int .i64 x.obj) (.int .i64 x.a) (.int .i64 x.b)
        have hb5 := heap_set5 (w1 := w2) (p := w1.heap.size) (t := 73) HN0.out (.int .i64 x.thread) (.int .u8 x.op.toNat) (.int .i64 x.obj) (.int .i64 x.a) (.int .i64 x.b)
        have hw1 : Nw w w1 := G1.out.2.1
        have hfr : ∀ g, (Value.slice ta b2.length tc).ownBlock = some g → w.heap.size ≤ g ∧ g ≠ w1.heap.size := fun g hg => by
          rcases Q.out.2.2 with h | h
          · exact V1.out.2.2.1 g (h ▸ hg)
          · have h1 := h g hg
            have h2 := hn1.size
            have h3 := V1.out.2.1.size
            refine ⟨by omega, fun e => ?_⟩
            simp only [World.size_alloc] at h1
            omega
        refine ⟨k + 1, by omega, by go_num, ?_, ?_, hfr, ?_⟩
        · have := Q.out.1.keep (w' := (((((w2.setCell ⟨w1.heap.size, 0, none⟩ (.int .i64 x.thread)).setCell ⟨w1.heap.size, 1, none⟩ (.int .u8 x.op.toNat)).setCell ⟨w1.heap.size, 2, none⟩ (.int .i64 x.obj)).setCell ⟨w1.heap.size, 3, none⟩ (.int .i64 x.a)).setCell ⟨w1.heap.size, 4, none⟩ (.int .i64 x.b))) hs5.size (fun g hg => hs5.block g (Q.out.1.lt g hg) (hfr g hg).2)
          exact HBX.out ▸ this
        · have h1 : Nw w w2 := (V1.out.2.1.trans hn1).trans' Q.out.2.1 (fun k hk hc => by have := (V1.out.2.2.1 k hc).1; omega)
          exact h1.trans' hs5 (fun k hk hc => by have := hw1.size; omega)
        · exact HLX.out ▸ hb5
      case measure => simp [intOf]; omega
    · obtain rfl : k = n := by omega
      have hall : l.take k = l := by rw [← HN.out]; exact List.take_length
      rw [hall] at hb hlen
      have HBD : Hid (uintB k ++ putL Ev.zero l = bodyB l) := Lib.hid (by unfold bodyB; rw [HN.out])
      rw [HBD.out] at hb hlen
      obtain ⟨sa, sc, rfl, -⟩ := hb.len
      have B := Lib.hid (And.intro hb (And.intro hw hf))
      have OW := Lib.hid hb.lt
      have LN := Lib.hid hlen
      have hm : ((bodyB l).length : Int) % 18446744073709551616 = (bodyB l).length := by omega
      have HFR : Hid (frmB l = uintB (bodyB l).length ++ sealB sumB (bodyB l)) := Lib.hid rfl
      clear hb hw hf hbox hlen hall HBD
      generalize bodyB l = bd at B OW LN hm HFR
      go_wp2_with fail
      refine (Uint_ok (l := []) Vec.nil bd.length (by have := LN.out; omega) (by simp)).mono ?_
      rintro e w2 ⟨v2, rfl, q1, q2, q3⟩
      have n2 : Nw wr w2 := q2.mono (fun k _ hk => by cases hk)
      have f2 : ∀ g, v2.ownBlock = some g → wr.heap.size ≤ g := fun g hg => by
        rcases q3 with h | h
        · rw [h] at hg; cases hg
        · exact h g hg
      simp only [List.nil_append] at q1
      have HU : Hid ((uintB bd.length).length ≤ 10) := Lib.hid (uintB_len _ 10 (by omega) (Nat.lt_trans (show bd.length < 2 ^ 64 by have := LN.out; omega) (by decide)))
      generalize uintB bd.length = ub at q1 HU HFR
      obtain ⟨ta, tc, rfl, -⟩ := q1.len
      have Q := Lib.hid (And.intro q1 (And.intro n2 f2))
      have QL := Lib.hid q1.lt
      clear q1 q2 q3 n2 f2
      go_wp2_with fail
      refine (Seal_ok (B.out.1.rd.nw Q.out.2.1) (by have := LN.out; omega)).mono ?_
      rintro e w3 ⟨v3, rfl, q1, q2, q3⟩
      have HS : Hid ((sealB sumB bd).length = bd.length + 4) := Lib.hid (by simp [sealB, sumB_len])
      generalize sealB sumB bd = sb at q1 HS HFR
      obtain ⟨ya, yc, rfl, -⟩ := q1.len
      have P := Lib.hid (And.intro q1 (And.intro q2 q3))
      clear q1 q2 q3
      have V3 := Lib.hid (Q.out.1.nw P.out.2.1)
      have S3 := Lib.hid P.out.1.src
      obtain ⟨i0, hi, hz0, hz1, hz2⟩ := info_parts infoU8
      have HI := Lib.hid hi
      have HZ0 := Lib.hid hz0
      have HZ1 := Lib.hid hz1
      have HZ2 := Lib.hid hz2
      clear hi hz0 hz1 hz2
      go_wp2_with (at_builtin; refine wpList_append_vec rfl _ _ 35 rfl 5 i0 (.int .u8 0) 1 1 Tryz.underlying35 HI.out HZ0.out HZ1.out HZ2.out rfl (by decide) rfl rfl V3.out S3.out ?c1 ?c2 ?c3 ?_)
      case c1 => exact fun u hu => by obtain ⟨y, _, rfl⟩ := List.mem_map.1 hu; exact u8_cell y
      case c2 => have := HU.out; have := HS.out; have := LN.out; unfold maxLen; omega
      case c3 => have := HU.out; have := HS.out; have := LN.out; omega
      intro v4 w4 q1 q2 q3
      obtain ⟨ma, mc, rfl, -⟩ := q1.len
      have R := Lib.hid (And.intro q1 (And.intro q2 q3))
      clear q1 q2 q3
      go_wp2
      refine bodyPost_ret (v := .tuple #[.slice ma (ub.length + sb.length) mc, .int .i64 0]) (by simp [results, Tryz.results88, go_sem]) rfl ⟨_, rfl, ?_, ?_, ?_⟩
      · rw [HFR.out, List.length_append, List.map_append]; exact R.out.1
      · exact ((B.out.2.1.trans Q.out.2.1).trans P.out.2.1).trans' R.out.2.1 (fun j hj hc => by have h1 := Q.out.2.2 j hc; have h2 := B.out.2.1.size; omega)
      · intro g hg
        have s1 := B.out.2.1.size
        have s2 := Q.out.2.1.size
        have s3 := P.out.2.1.size
        rcases R.out.2.2 with h | h
        · have := Q.out.2.2 g (h ▸ hg); omega
        · have := h g hg; omega
end Go.Proofs.YtjapijndljknnaaGreatDoor
