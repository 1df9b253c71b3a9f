/-
  Texts merged by a program of this claim's: DocH, DocB.
-/
import Derived.Test.YtkhcdbafcigeoaaGreatDoorM26
import Derived.Test.YtkhcdbafcigeoaaGreatDoorM9
import Derived.Test.YtkhcdbafcigeoaaGreatDoorM18
import Derived.Test.YtkhcdbafcigeoaaGreatDoorM25
import Derived.Test.YtkhcdbafcigeoaaGreatDoorM13
import Derived.Deep.DeepCutAuto
namespace Go.Proofs.YtkhcdbafcigeoaaGreatDoor
open Go Go.RowKit Go.Sort
set_option maxRecDepth 100000
set_option maxHeartbeats 3200000

def EvAt (w : World) (g o : Nat) (e : Ev) : Prop := w.cell? ⟨g, o, none⟩ = some (.int .i64 e.thread) ∧ w.cell? ⟨g, o + 1, none⟩ = some (.int .u8 e.op.toNat) ∧ w.cell? ⟨g, o + 2, none⟩ = some (.int .i64 e.obj) ∧ w.cell? ⟨g, o + 3, none⟩ = some (.int .i64 e.a) ∧ w.cell? ⟨g, o + 4, none⟩ = some (.int .i64 e.b)
theorem EvAt.nw {w w' : World} {g o : Nat} {e : Ev} (h : EvAt w g o e) (hw : Nw w w') : EvAt w' g o e := ⟨hw.cell h.1, hw.cell h.2.1, hw.cell h.2.2.1, hw.cell h.2.2.2.1, hw.cell h.2.2.2.2⟩
theorem evs_at {w : World} {v : Value} {l : List Ev} (h : Evs w v l) : ∃ a cap, v = .slice a l.length cap ∧ l.length ≤ maxLen ∧ ∀ i (hi : i < l.length), ∃ g o, a = some ⟨g, o, none⟩ ∧ g < w.heap.size ∧ EvAt w g (o + i * 5) l[i] := h.elem

end Go.Proofs.YtkhcdbafcigeoaaGreatDoor

namespace Go.Proofs.YtkhcdbafcigeoaaGreatDoor
open Go Go.RowKit Go.Sort
set_option maxRecDepth 100000
set_option maxHeartbeats 1600000
section
variable {X : Nat → Prop} {d d' : Dsk} {v : Value} {w : World}
theorem set4_end {Y : Nat → Prop} {w3 : World} {p : Nat} {m la : Int} {a : Option Addr} {nn c : Nat} {dn : Bool} {u0 u1 u2 u3 : Value} (hN : Nw w w3) (hp : w.heap.size ≤ p) (hb : w3.heap[p]? = some (DB u0 u1 u2 u3)) (hD : RD Y w3 v d) (hY : ∀ k, Y k → X k ∧ k ≠ p) :
    ∃ w4, ((((w3.setCell ⟨p, 0, none⟩ (.int .i64 m)).setCell ⟨p, 1, none⟩ (.slice a nn c)).setCell ⟨p, 2, none⟩ (.int .i64 la)).setCell ⟨p, 3, none⟩ (.bool dn)) = w4 ∧ RD X w4 v d ∧ Nw w w4 ∧ Only (fun k => k = p) w3 w4 ∧ w4.heap[p]? = some (DB (.int .i64 m) (.slice a nn c) (.int .i64 la) (.bool dn)) := by
  have hO := only_set4 w3 p (.int .i64 m) (.slice a nn c) (.int .i64 la) (.bool dn)
  refine ⟨_, rfl, (hD.put hO (fun k hk _ e => (hY k hk).2 e)).mono fun k hk => (hY k hk).1, hN.trans' hO (fun k hk e => by omega), hO, heap_set4 hb _ _ _ _⟩
theorem boxes_in (w : World) (A B : Obj) : Nw w ((w.alloc A).alloc B) ∧ ((w.alloc A).alloc B).heap[w.heap.size]? = some A ∧ ((w.alloc A).alloc B).heap[w.heap.size + 1]? = some B ∧ ((w.alloc A).alloc B).heap.size = w.heap.size + 2 := by
  refine ⟨((Nw.refl w).alloc _).alloc _, ?_, ?_, by simp⟩
  · rw [heap_alloc_old _ _ (by simp)]; exact heap_alloc_new w A
  · have := heap_alloc_new (w.alloc A) B
    simpa using this
theorem dHead_ok (n : Nat) (hn : n ≤ 4611686018427387904) (w : World) :
    Calls Tryz.prog 18 #[.int .i64 n] w (NewE w (headB n)) := by
  have q1 : decide ((n : Int) < 0) = false := by simp
  have q2 : decide ((4611686018427387904 : Int) < (n : Int)) = false := by simp; omega
  have hw2 : IntKind.u64.wrap (n : Int) = (n : Int) := by rw [IntKind.wrap_u64]; omega
  have V0 := Lib.hid (vec_lit w 5 1 4 (([65, 77, 83, 49] : List UInt8).map Go.Proofs.YtkhcdbafcigeoaaGreatDoor.u8) _ (0, 0) rfl rfl (by decide) (fun j hj => by omega))
  go_enter Tryz.func18, Tryz.ntmps18
  go_wp2_with fail
  refine (rUint_ok (l := [65, 77, 83, 49]) V0.out.rd n (by omega) (by simp)).mono ?_
  rintro e w1 ⟨v1, rfl, q1, q2, q3⟩
  have HH : Hid (headB n = sealB sumB ([65, 77, 83, 49] ++ uintB n)) := Lib.hid rfl
  have HL : Hid (([65, 77, 83, 49] ++ uintB n).length ≤ 14) := Lib.hid (by
    have := uintB_len n 10 (by omega) (Nat.lt_trans (show n < 2 ^ 64 by omega) (by decide))
    simp only [List.length_append, List.length_cons, List.length_nil]; omega)
  have N1 : Hid (Nw w w1) := Lib.hid (((Nw.refl w).alloc _).trans q2)
  generalize [65, 77, 83, 49] ++ uintB n = l1 at *
  obtain ⟨xa, xc, rfl, -⟩ := q1.len
  have Q := Lib.hid q1
  clear q1 q2 q3
  go_wp2_with fail
  refine (rSeal_ok Q.out.rd (by have := HL.out; omega)).mono ?_
  rintro e w2 ⟨v2, rfl, q1, q2, q3⟩
  rw [← HH.out] at q1
  obtain ⟨ya, yc, rfl, -⟩ := q1.len
  have P := Lib.hid (And.intro q1 (And.intro q2 q3))
  clear q1 q2 q3
  go_wp2
  refine bodyPost_ret (v := .tuple #[.slice ya (headB n).length yc, .int .i64 0]) (by simp [results, Tryz.results18, go_sem]) rfl ⟨_, rfl, P.out.1, N1.out.trans P.out.2.1, fun g hg => Nat.le_trans N1.out.size (P.out.2.2 g hg)⟩
end
end Go.Proofs.YtkhcdbafcigeoaaGreatDoor
