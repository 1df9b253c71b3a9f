/-
  Texts merged by a program of this claim's: TreeO, ChkA, TreeW, ChkB, CodA.
-/
import Derived.Test.YtcmaedoolinijaaGreatDoorM6
import Derived.Test.YtcmaedoolinijaaGreatDoorM5
import Derived.Deep.DeepCutAuto
import Derived.Deep.CutRange
import Derived.Test.YtcmaedoolinijaaGreatDoorM1
namespace Go.Proofs.YtcmaedoolinijaaGreatDoor
open Go Go.RowKit Go.Sort
set_option maxRecDepth 100000
set_option maxHeartbeats 3200000
theorem objIs_ok {w : World} (hM : Mx w) {d : Dcl} (hk : d.kind < 256) (hl : d.name.length ≤ 9223372036854775807) (hl2 : d.of_.length ≤ 9223372036854775807) :
    Calls Tryz.prog 69 #[.agg (dclA d)] w fun z w' => z = .returned (.bool (objectB d)) ∧ Nw w w' := by
  have NM := Lib.hid (fun (W : World) (hW : Nw w W) => isName_ok (hM.nw hW) hl)
  have OFN := Lib.hid (fun (W : World) (hW : Nw w W) => isName_ok (hM.nw hW) hl2)
  obtain ⟨k, nm, n, o, li⟩ := d
  simp only at NM OFN hk
  have CN := fun (W : World) => counted_ok (w := W) k
  have z0 : ∀ w : World, (w.alloc (.cells (dclA ⟨k, nm, n, o, li⟩) 76)).cell? ⟨w.heap.size, 0, none⟩ = some (.int .u8 (k : Int)) := fun w => (box5 (heap_alloc_new w _)).1
  have z1 : ∀ w : World, (w.alloc (.cells (dclA ⟨k, nm, n, o, li⟩) 76)).cell? ⟨w.heap.size, 1, none⟩ = some (.string ⟨nm.toArray⟩) := fun w => (box5 (heap_alloc_new w _)).2.1
  have z2 : ∀ w : World, (w.alloc (.cells (dclA ⟨k, nm, n, o, li⟩) 76)).cell? ⟨w.heap.size, 2, none⟩ = some (.int .i64 n) := fun w => (box5 (heap_alloc_new w _)).2.2.1
  have z3 : ∀ w : World, (w.alloc (.cells (dclA ⟨k, nm, n, o, li⟩) 76)).cell? ⟨w.heap.size, 3, none⟩ = some (.string ⟨o.toArray⟩) := fun w => (box5 (heap_alloc_new w _)).2.2.2.1
  unfold objectB dclA at *
  simp only at *
  obtain ⟨yn, hyn⟩ : ∃ y, nameB nm = y := ⟨_, rfl⟩
  obtain ⟨yo, hyo⟩ : ∃ y, nameB o = y := ⟨_, rfl⟩
  obtain ⟨yc, hyc⟩ : ∃ y, countB k = y := ⟨_, rfl⟩
  rw [hyn] at NM ⊢
  rw [hyo] at OFN ⊢
  rw [hyc] at CN ⊢
  obtain ⟨y4, hy4⟩ : ∃ y, (o == []) = y := ⟨_, rfl⟩
  rw [show decide (o = []) = y4 by rw [← hy4]; cases o <;> simp]
  clear hyn hyo hyc hM hl hl2
  by_cases k1 : k < 1
  · have q1 : decide ((k : Int) < 1) = true := by simp; omega
    rw [show decide (1 ≤ k) = false by simp; omega]
    simp only [Bool.false_and]
    clear k1
    go_enter Tryz.func69, Tryz.ntmps69
    go_wp2_with fail
    go_ret
    exact ⟨rfl, (Nw.refl w).alloc _⟩
  have q1 : decide ((k : Int) < 1) = false := by simp; omega
  rw [show decide (1 ≤ k) = true by simp; omega]
  simp only [Bool.true_and]
  by_cases k9 : 9 < k
  · have q2 : decide ((9 : Int) < (k : Int)) = true := by simp; omega
    rw [show decide (k ≤ 9) = false by simp; omega]
    simp only [Bool.false_and]
    clear k1 k9
    go_enter Tryz.func69, Tryz.ntmps69
    go_wp2_with fail
    go_ret
    exact ⟨rfl, (Nw.refl w).alloc _⟩
  have q2 : decide ((9 : Int) < (k : Int)) = false := by simp; omega
  rw [show decide (k ≤ 9) = true by simp; omega]
  simp only [Bool.true_and]
  clear k1 k9
  cases yn with
  | false =>
    simp only [Bool.false_and]
    go_enter Tryz.func69, Tryz.ntmps69
    go_wp2_with fail
    refine (NM.out _ ((Nw.refl w).alloc _)).mono ?_
    rintro z w1 ⟨rfl, n1⟩
    have N1 := Lib.hid n1
    have c1 := n1.cell (z1 w)
    have c2 := n1.cell (z2 w)
    have c0 := n1.cell (z0 w)
    have c3 := n1.cell (z3 w)
    clear n1
    go_wp2_with fail
    go_ret
    exact ⟨rfl, ((Nw.refl w).alloc _).trans N1.out⟩
  | true =>
  simp only [Bool.true_and]
  by_cases n0 : n < 0
  · have q3 : decide (n < 0) = true := by simpa using n0
    rw [show decide (0 ≤ n) = false by simp; omega]
    simp only [Bool.false_and]
    clear n0
    go_enter Tryz.func69, Tryz.ntmps69
    go_wp2_with fail
    refine (NM.out _ ((Nw.refl w).alloc _)).mono ?_
    rintro z w1 ⟨rfl, n1⟩
    have N1 := Lib.hid n1
    have c1 := n1.cell (z1 w)
    have c2 := n1.cell (z2 w)
    have c0 := n1.cell (z0 w)
    have c3 := n1.cell (z3 w)
    clear n1
    go_wp2_with fail
    go_ret
    exact ⟨rfl, ((Nw.refl w).alloc _).trans N1.out⟩
  have q3 : decide (n < 0) = false := by simpa using n0
  rw [show decide (0 ≤ n) = true by simp; omega]
  simp only [Bool.true_and]
  by_cases n1 : 0 < n
  · have q4 : decide (0 < n) = true := by simpa using n1
    rw [show decide (n ≤ 0) = false by simp; omega]
    simp only [Bool.false_or]
    clear n0 n1
    cases yc with
    | false =>
      simp only [Bool.false_and]
      go_enter Tryz.func69, Tryz.ntmps69
      go_wp2_with fail
      refine (NM.out _ ((Nw.refl w).alloc _)).mono ?_
      rintro z w1 ⟨rfl, n1⟩
      have N1 := Lib.hid n1
      have c1 := n1.cell (z1 w)
      have c2 := n1.cell (z2 w)
      have c0 := n1.cell (z0 w)
      have c3 := n1.cell (z3 w)
      clear n1
      go_wp2_with fail
      refine (CN _).mono ?_
      rintro z w1' ⟨rfl, rfl⟩
      go_wp2_with fail
      go_ret
      exact ⟨rfl, ((Nw.refl w).alloc _).trans N1.out⟩
    | true =>
      simp only [Bool.true_and]
      by_cases k4 : k = 4
      · have q5 : ((k : Int) == 4) = true := by simp [k4]
        rw [if_pos k4]
        clear k4
        go_enter Tryz.func69, Tryz.ntmps69
        go_wp2_with fail
        refine (NM.out _ ((Nw.refl w).alloc _)).mono ?_
        rintro z w1 ⟨rfl, n1⟩
        have N1 := Lib.hid n1
        have c1 := n1.cell (z1 w)
        have c2 := n1.cell (z2 w)
        have c0 := n1.cell (z0 w)
        have c3 := n1.cell (z3 w)
        clear n1
        go_wp2_with fail
        refine (CN _).mono ?_
        rintro z w1' ⟨rfl, rfl⟩
        go_wp2_with fail
        refine (OFN.out _ ((((Nw.refl w).alloc _)).trans N1.out)).mono ?_
        rintro z w2 ⟨rfl, n2⟩
        have N2 := Lib.hid n2
        clear n2
        go_wp2_with fail
        go_ret
        exact ⟨rfl, (((Nw.refl w).alloc _).trans N1.out).trans N2.out⟩
      · have q5 : ((k : Int) == 4) = false := by simp; omega
        rw [if_neg k4]
        clear k4
        go_enter Tryz.func69, Tryz.ntmps69
        go_wp2_with fail
        refine (NM.out _ ((Nw.refl w).alloc _)).mono ?_
        rintro z w1 ⟨rfl, n1⟩
        have N1 := Lib.hid n1
        have c1 := n1.cell (z1 w)
        have c2 := n1.cell (z2 w)
        have c0 := n1.cell (z0 w)
        have c3 := n1.cell (z3 w)
        clear n1
        go_wp2_with fail
        refine (CN _).mono ?_
        rintro z w1' ⟨rfl, rfl⟩
        go_wp2_with fail
        go_ret
        exact ⟨rfl, ((Nw.refl w).alloc _).trans N1.out⟩
  · have q4 : decide (0 < n) = false := by simpa using n1
    rw [show decide (n ≤ 0) = true by simp; omega]
    simp only [Bool.true_or, Bool.true_and]
    clear n0 n1
    by_cases k4 : k = 4
    · have q5 : ((k : Int) == 4) = true := by simp [k4]
      rw [if_pos k4]
      clear k4
      go_enter Tryz.func69, Tryz.ntmps69
      go_wp2_with fail
      refine (NM.out _ ((Nw.refl w).alloc _)).mono ?_
      rintro z w1 ⟨rfl, n1⟩
      have N1 := Lib.hid n1
      have c1 := n1.cell (z1 w)
      have c2 := n1.cell (z2 w)
      have c0 := n1.cell (z0 w)
      have c3 := n1.cell (z3 w)
      clear n1
      go_wp2_with fail
      refine (OFN.out _ ((((Nw.refl w).alloc _)).trans N1.out)).mono ?_
      rintro z w2 ⟨rfl, n2⟩
      have N2 := Lib.hid n2
      clear n2
      go_wp2_with fail
      go_ret
      exact ⟨rfl, (((Nw.refl w).alloc _).trans N1.out).trans N2.out⟩
    · have q5 : ((k : Int) == 4) = false := by simp; omega
      rw [if_neg k4]
      clear k4
      go_enter Tryz.func69, Tryz.ntmps69
      go_wp2_with fail
      refine (NM.out _ ((Nw.refl w).alloc _)).mono ?_
      rintro z w1 ⟨rfl, n1⟩
      have N1 := Lib.hid n1
      have c1 := n1.cell (z1 w)
      have c2 := n1.cell (z2 w)
      have c0 := n1.cell (z0 w)
      have c3 := n1.cell (z3 w)
      clear n1
      go_wp2_with fail
      go_ret
      exact ⟨rfl, ((Nw.refl w).alloc _).trans N1.out⟩
end Go.Proofs.YtcmaedoolinijaaGreatDoor

namespace Go.Proofs.YtcmaedoolinijaaGreatDoor
open Go Go.RowKit Go.Sort
set_option maxRecDepth 100000
set_option maxHeartbeats 3200000
section
variable {P : Program} {w : World} {t kt et : TypeId} {m clock : Nat} {L : List En} {k : Str}
theorem run_look2_miss (ht : P.underlying t = some (.map kt et)) (hk : P.underlying kt = some .string) {z : Value} (hz : (zeroValue et).run P w = .ok z w)
    (hb : w.heap[m]? = some (.map (ents L) clock)) (hn : k ∉ L.map En.key) :
    (Instr.lookup t (.map (some m)) (.string ⟨k.toArray⟩) true).run P w = .ok (.tuple #[z, .bool false]) w := by
  have h1 := MapKept.run_findKey (w := w) hk (findNow_miss k L 0 hn)
  have h2 := fun b => run_checkStr (w := w) hk b k
  simp [Instr.lookup, run_underlying ht, MapKept.run_getObj_map hb, h2, Result.andThen, ents, h1, hz]
end
def plainK (k : Nat) : Prop := k ≠ 3 ∧ k ≠ 4 ∧ k ≠ 5 ∧ k ≠ 8
theorem kobj_ok {w : World} {g m clock : Nat} {L : List En} {v : Value} (hg : w.heap[g]? = some (.cells #[.map (some m), v] 151 (0, 0))) (hm : w.heap[m]? = some (.map (ents L) clock)) {d : Dcl} (hk : plainK d.kind) (hn : d.name ∉ L.map En.key) :
    Calls Tryz.prog 73 #[.pointer (some ⟨g, 0, none⟩), .agg (dclA d)] w fun z w' => z = .returned (.int .i64 0) ∧ Nw w w' := by
  obtain ⟨k, nm, n, o, li⟩ := d
  simp only at hk hn
  obtain ⟨k3, k4, k5, k8⟩ := hk
  have q3 : ((k : Int) == 3) = false := by simp; omega
  have q4 : ((k : Int) == 4) = false := by simp; omega
  have q5 : ((k : Int) == 5) = false := by simp; omega
  have q8 : ((k : Int) == 8) = false := by simp; omega
  obtain ⟨W, hW⟩ : ∃ W, w.alloc (.cells (dclA ⟨k, nm, n, o, li⟩) 76) = W := ⟨_, rfl⟩
  have hNW : Nw w W := by rw [← hW]; exact (Nw.refl w).alloc _
  have g0 := cellG (box2 (hNW.at_ hg)).1
  have hmW := hNW.at_ hm
  have hdW : W.heap[w.heap.size]? = some (.cells (dclA ⟨k, nm, n, o, li⟩) 76 (0, 0)) := by rw [← hW]; exact heap_alloc_new w _
  have n1 := cellG (box5 hdW).2.1
  have n0 := (box5 hdW).1
  have hlk : ∀ p : Regrown, (Instr.lookup 149 (.map (some m)) (.string ⟨nm.toArray⟩) true).run Tryz.prog (grow (redrawn W p.d) p.os) = .ok (.tuple #[.int .u8 0, .bool false]) (grow (redrawn W p.d) p.os) := fun p =>
    run_look2_miss Tryz.underlying149 Tryz.underlying9 (by exact Tryz.zeroValue74 _) (Nw.at_ (Nw.of_regrown ⟨p, rfl⟩) hmW) hn
  have HNW := Lib.hid hNW
  have N0 := Lib.hid n0
  clear hNW hmW hdW hm hg hn k3 k4 k5 k8 n0
  go_enter Tryz.func73, Tryz.ntmps73
  go_wp2_with fail
  try rw [hW]
  refine wp_region_quiet_below (by kernel_rfl) (by kernel_rfl) ?_
  repeat (first | go_big_quiet_step (fail) | quiet_step (fail))
  refine wpQuiet_nil ?_
  intro w2 hw2
  have N2 := Lib.hid (Nw.of_regrown hw2)
  have n0 := (Nw.of_regrown hw2).cell N0.out
  clear hw2
  go_wp2_with fail
  go_ret
  exact ⟨rfl, HNW.out.trans N2.out⟩
theorem knostmts_ok {w : World} (g : Nat) (a : Option Addr) (c : Nat) : Calls Tryz.prog 74 #[.pointer (some ⟨g, 0, none⟩), .slice a 0 c] w fun z w' => z = .returned (.agg (fltA 0 0)) ∧ Nw w w' := by
  have N := (Nw.refl w).alloc (.cells (fltA 0 0) 43)
  go_enter Tryz.func74, Tryz.ntmps74
  go_wp2_with fail
  go_loopw [13] (fun v wr => v = .int .i64 0 ∧ wr = w.alloc (.cells (fltA 0 0) 43)) (fun _ _ => 0)
  case atStart => exact ⟨rfl, rfl⟩
  case round =>
    obtain ⟨rfl, rfl⟩ := hrel
    unfold fltA
    go_wp2_with fail
    refine bodyPost_ret (v := .agg (fltA 0 0)) (by simp [results, Tryz.results74, go_sem]; rfl) rfl ⟨rfl, N⟩
theorem nolong_ok {w : World} (a : Option Addr) (c : Nat) : Calls Tryz.prog 75 #[.slice a 0 c] w fun z w' => z = .returned (.int .i64 0) ∧ w' = w := by
  go_enter Tryz.func75, Tryz.ntmps75
  go_wp2_with fail
  go_loopw [3, 9] (fun n v wr => n = .int .i64 0 ∧ v = .int .i64 0 ∧ wr = w) (fun _ _ _ => 0)
  case atStart => exact ⟨rfl, rfl, rfl⟩
  case round =>
    obtain ⟨rfl, rfl, rfl⟩ := hrel
    go_wp2_with fail
    go_ret
    exact ⟨rfl, rfl⟩
end Go.Proofs.YtcmaedoolinijaaGreatDoor

namespace Go.Proofs.YtcmaedoolinijaaGreatDoor
open Go Go.RowKit Go.Sort
set_option maxRecDepth 100000
set_option maxHeartbeats 3200000
theorem RdK.off {α : Type} {k : Nat} {R : List Value → α → Prop} {S : Nat → Prop} {w w' : World} {v : Value} {l : List α} (h : RdK k R w v l) (ho : Only S w w') (hn : l ≠ [] → ∀ g, v.ownBlock = some g → ¬ S g) : RdK k R w' v l := by
  rcases h with h | ⟨g, o, cap, rfl, h1, h2, hg, h3⟩
  · exact .inl h
  · refine .inr ⟨g, o, cap, rfl, h1, h2, Nat.lt_of_lt_of_le hg ho.size, fun i hi => ?_⟩
    obtain ⟨cs, hk, hc, hr⟩ := h3 i hi
    exact ⟨cs, hk, fun j hj => ho.cell (hc j hj) (hn (fun e => by rw [e] at hi; exact absurd hi (by simp)) g rfl), hr⟩
def WkB (w : World) (g : Nat) (n : Nat) (ask bad : Bool) : Prop := w.heap[g]? = some (.cells #[.int .i64 (n : Int), .bool ask, .bool bad] 98 (0, 0))
theorem box3 {w : World} {p : Nat} {a b c : Value} {t : TypeId} (h : w.heap[p]? = some (.cells #[a, b, c] t (0, 0))) :
    w.cell? ⟨p, 0, none⟩ = some a ∧ w.cell? ⟨p, 1, none⟩ = some b ∧ w.cell? ⟨p, 2, none⟩ = some c ∧ ∀ i, w.frozen? ⟨p, i, none⟩ = false := by
  simp [World.cell?, World.frozen?, h]
theorem WkB.dcls {w : World} {g n : Nat} {ask bad : Bool} (h : WkB w g n ask bad) {v : Value} {os : List Dcl} (hv : RdK 5 isDcl w v os) : os ≠ [] → ∀ k, v.ownBlock = some k → ¬ k = g := by
  rintro hne k hk rfl
  rcases hv with ⟨a, rfl, rfl⟩ | ⟨g, o, cap, rfl, h1, h2, hg, h3⟩
  · exact hne rfl
  · cases hk
    obtain ⟨cs, hk5, hc, -⟩ := h3 0 (by cases os with | nil => exact absurd rfl hne | cons a l => simp)
    have := hc 4 (by omega)
    rw [cell_of_row _ _ _ _ _ _ h] at this
    have hlt := (Array.getElem?_eq_some_iff.1 this).1
    simp at hlt
    omega
theorem WkB.thrs {w : World} {g n : Nat} {ask bad : Bool} (h : WkB w g n ask bad) {v : Value} {ts : List Thr} (hv : RdK 3 (isThr w) w v ts) : ts ≠ [] → ∀ k, v.ownBlock = some k → ¬ k = g := by
  rintro hne k hk rfl
  rcases hv with ⟨a, rfl, rfl⟩ | ⟨g, o, cap, rfl, h1, h2, hg, h3⟩
  · exact hne rfl
  · cases hk
    obtain ⟨cs, hk5, hc, ⟨x, rfl, -⟩⟩ := h3 0 (by cases ts with | nil => exact absurd rfl hne | cons a l => simp)
    have c2 := hc 2 (by simp)
    have c0 := hc 0 (by simp)
    rw [cell_of_row _ _ _ _ _ _ h] at c2 c0
    have hlt := (Array.getElem?_eq_some_iff.1 c2).1
    simp at hlt
    obtain rfl : o = 0 := by omega
    simp at c0
def badB (ask : Bool) (os : List Dcl) (ts : List Thr) : Bool := decide (os.length > 64) || decide (ts.length > 16) || (os.any fun d => ask && !objectB d) || (ts.any fun t => ask && !nameB t.name)
theorem any_take_succ {α : Type} {l : List α} {k : Nat} (h : k < l.length) (p : α → Bool) : (l.take (k + 1)).any p = ((l.take k).any p || p l[k]) := by
  rw [List.take_succ_eq_append_getElem h, List.any_append]
  simp
structure PgB (w wr : World) (g : Nat) (ask bad : Bool) (v0 v1 : Value) : Prop where
  on : Only (fun k => k = g) w wr
  wk : WkB wr g 0 ask bad
  pb : wr.heap[w.heap.size]? = some (.cells #[v0, v1] 51 (0, 0))
  gw : g < w.heap.size
theorem PgB.step {w wr w' : World} {g : Nat} {ask bad : Bool} {v0 v1 : Value} (h : PgB w wr g ask bad v0 v1) (hn : Nw wr w') : PgB w w' g ask bad v0 v1 := ⟨h.on.trans hn.only, hn.at_ h.wk, hn.at_ h.pb, h.gw⟩
theorem PgB.put {w wr : World} {g : Nat} {ask bad : Bool} {v0 v1 : Value} (h : PgB w wr g ask bad v0 v1) (b : Bool) : PgB w (wr.setCell ⟨g, 2, none⟩ (.bool b)) g ask b v0 v1 where
  on := Only.put (S := fun k => k = g) h.on rfl _ _
  wk := by have := heap_put (i := 2) h.wk (.bool b); simpa [WkB] using this
  pb := by rw [heap_setCell_other _ _ _ _ (by have := h.gw; simp; omega)]; exact h.pb
  gw := h.gw
theorem nostmts_ok {w : World} (a : Option Addr) (c : Nat) (g : Nat) (d : Int) : Calls Tryz.prog 71 #[.pointer (some ⟨g, 0, none⟩), .slice a 0 c, .int .i64 d] w fun z w' => z = .returned (.tuple #[]) ∧ w' = w := by
  go_enter Tryz.func71, Tryz.ntmps71
  go_wp2_with fail
  go_loopw [10] (fun v wr => v = .int .i64 0 ∧ wr = w) (fun _ _ => 0)
  case atStart => exact ⟨rfl, rfl⟩
  case round =>
    obtain ⟨rfl, rfl⟩ := hrel
    go_wp2_with fail
    go_end0
    exact ⟨rfl, rfl⟩
theorem program_ok {w : World} {g : Nat} {ask : Bool} (hg : WkB w g 0 ask false) (hM : Mx w) (hgM : ¬ 0 = g) {v0 v1 : Value} {os : List Dcl} {ts : List Thr} (h0 : RdK 5 isDcl w v0 os) (h1 : RdK 3 (isThr w) w v1 ts) (hb : ∀ t ∈ ts, t.body = []) :
    Calls Tryz.prog 37 #[.pointer (some ⟨g, 0, none⟩), .agg #[v0, v1]] w fun z w' => z = .returned (.bool (!badB ask os ts)) ∧ Only (fun k => k = g) w w' := by
  obtain ⟨a0, c0, rfl, hc0, hm0, -⟩ := h0.len
  obtain ⟨a1, c1, rfl, hc1, hm1, -⟩ := h1.len
  have H0 := Lib.hid (fun (W : World) (hW : Only (fun k => k = g) w W) => h0.off hW (fun hne k hk => hg.dcls h0 hne k hk))
  have H1 := Lib.hid (fun (W : World) (hW : Only (fun k => k = g) w W) => h1.off hW (fun hne k hk => hg.thrs h1 hne k hk))
  have HM := Lib.hid (fun (W : World) (hW : Only (fun k => k = g) w W) => hM.on hW hgM)
  obtain ⟨no, hno⟩ : ∃ n, os.length = n := ⟨_, rfl⟩
  obtain ⟨nt, hnt⟩ : ∃ n, ts.length = n := ⟨_, rfl⟩
  have NO := Lib.hid hno
  have NT := Lib.hid hnt
  have HG := Lib.hid hg
  have HB := Lib.hid hb
  have hm0' : c0 ≤ 9223372036854775807 := by unfold maxLen at hm0; omega
  have hm1' : c1 ≤ 9223372036854775807 := by unfold maxLen at hm1; omega
  have hgw := lt_of_block hg
  obtain ⟨g0, g1, g2, gf⟩ := box3 hg
  have hgs : ¬ g = w.heap.size := by omega
  rw [hno] at hc0 H0 ⊢
  rw [hnt] at hc1 H1 ⊢
  clear h0 h1 hM hb hg hno hnt
  go_enter Tryz.func37, Tryz.ntmps37
  obtain ⟨x1, hx1⟩ : ∃ x, decide ((64 : Int) < (no : Int)) = x := ⟨_, rfl⟩
  obtain ⟨x2, hx2⟩ : ∃ x, decide ((16 : Int) < (nt : Int)) = x := ⟨_, rfl⟩
  go_upto_region 1 with fail
  go_cut [4] from 9 to 21 (fun v wx => v = .bool false ∧ wx = (w.setCell ⟨g, 2, none⟩ (.bool (x1 || x2))).alloc (.cells #[.slice a0 no c0, .slice a1 nt c1] 51))
  case first =>
    cases x1 <;> cases x2
    all_goals
      go_wp2_with fail
      go_meet
      exact ⟨rfl, rfl⟩
  case rest =>
  obtain ⟨rfl, rfl⟩ := hcut
  have HX : Hid ((x1 || x2) = (decide (os.length > 64) || decide (ts.length > 16))) := Lib.hid (by
    rw [← hx1, ← hx2, NO.out, NT.out]
    congr 1 <;> (rw [decide_eq_decide]; omega))
  obtain ⟨x, hx⟩ : ∃ x, (x1 || x2) = x := ⟨_, rfl⟩
  rw [hx] at HX ⊢
  clear hx hx1 hx2 g0 g1 g2 gf
  obtain ⟨wb, hwb⟩ : ∃ wb, (w.setCell ⟨g, 2, none⟩ (.bool x)).alloc (.cells #[.slice a0 no c0, .slice a1 nt c1] 51) = wb := ⟨_, rfl⟩
  have PB : Hid (PgB w wb g ask x (.slice a0 no c0) (.slice a1 nt c1)) := Lib.hid (by
    rw [← hwb]
    have ho : Only (fun k => k = g) w (w.setCell ⟨g, 2, none⟩ (.bool x)) := Only.put (S := fun k => k = g) (Only.refl w) rfl _ _
    have hn := Nw.alloc (Nw.refl (w.setCell ⟨g, 2, none⟩ (.bool x))) (.cells #[.slice a0 no c0, .slice a1 nt c1] 51)
    refine ⟨ho.trans hn.only, ?_, ?_, hgw⟩
    · have := hn.at_ (heap_put (i := 2) HG.out (.bool x))
      simpa [WkB] using this
    · have := heap_alloc_new (w.setCell ⟨g, 2, none⟩ (.bool x)) (.cells #[.slice a0 no c0, .slice a1 nt c1] 51)
      simpa using this)
  rw [hwb]
  clear hwb
  obtain ⟨p0, p1, pf⟩ := box2 PB.out.pb
  go_wp2_with fail
  clear p0 p1 pf
  go_loopw [25] (fun v wr => ∃ (k : Nat) (b : Bool), k ≤ no ∧ v = .int .i64 k ∧ b = (x || (os.take k).any fun d => ask && !objectB d) ∧ PgB w wr g ask b (.slice a0 no c0) (.slice a1 nt c1)) (fun v _ => no - (intOf v).toNat)
  case atStart => exact ⟨0, x, by omega, rfl, by simp, PB.out⟩
  case round =>
    obtain ⟨k, bd, hk, rfl, hbd, hP⟩ := hrel
    have HP := Lib.hid hP
    have HBD := Lib.hid hbd
    clear hP hbd
    by_cases hkn : k < no
    · have q : decide ((k : Int) < (no : Int)) = true := by simp; omega
      have hkl : k < os.length := by have := NO.out; omega
      rcases H0.out wr HP.out.on with ⟨a, -, e2⟩ | ⟨gv, ov, cap, e1, -, -, hgv, h3⟩
      · rw [e2] at NO; exact absurd NO.out (by simp; omega)
      obtain ⟨rfl, -, rfl⟩ : a0 = some ⟨gv, ov, none⟩ ∧ no = os.length ∧ c0 = cap := by simpa using e1
      obtain ⟨cs, -, hc, hd, hd1, hd2, -, hd3, -⟩ := h3 k hkl
      obtain ⟨d, hdd⟩ : ∃ d, os[k]'hkl = d := ⟨_, rfl⟩
      rw [hdd] at hd hd1 hd2 hd3
      subst hd
      have e0 := hc 0 (by simp)
      have e1' := hc 1 (by simp)
      have e2 := hc 2 (by simp)
      have e3 := hc 3 (by simp)
      have e4 := hc 4 (by simp)
      simp only [List.getElem_cons_zero, List.getElem_cons_succ, Nat.add_zero] at e0 e1' e2 e3 e4
      have hgl : gv < wr.heap.size := hgv
      have HST : Hid ((bd || (ask && !objectB d)) = (x || (os.take (k + 1)).any fun d => ask && !objectB d)) := Lib.hid (by
        rw [HBD.out, any_take_succ hkl, hdd, Bool.or_assoc])
      clear hc h3 e1 hdd hgv
      have hbox : Hid (Mx wr) := Lib.hid (HM.out wr HP.out.on)
      go_upto_region 5 with fail
      have PD := Lib.hid (HP.out.step (Nw.alloc (Nw.refl wr) (.cells (dclA d) 76)))
      have CALL := Lib.hid (objIs_ok (w := wr.alloc (.cells (dclA d) 76)) (hbox.out.nw (Nw.alloc (Nw.refl wr) _)) hd1 hd2 hd3)
      obtain ⟨wd, hwd⟩ : ∃ wd, wr.alloc (.cells (dclA d) 76) = wd := ⟨_, rfl⟩
      have DB : Hid (wd.heap[wr.heap.size]? = some (.cells (dclA d) 76 (0, 0))) := Lib.hid (by rw [← hwd]; exact heap_alloc_new wr _)
      rw [hwd] at PD CALL
      unfold dclA at hwd CALL
      rw [hwd]
      clear hwd e0 e1' e2 e3 e4
      obtain ⟨m0, m1, m2, mf⟩ := box3 PD.out.wk
      obtain ⟨d0, d1, d2, d3, d4, df⟩ := box5 DB.out
      cases bd with
      | true =>
        have PQ := Lib.hid (PD.out.put true)
        simp only [Bool.true_or] at HST
        go_wp2_with fail
        exact ⟨⟨k + 1, _, by omega, by simp, HST.out, PQ.out⟩, by simp [intOf]; omega⟩
      | false =>
        simp only [Bool.false_or] at HST
        cases ask with
        | false =>
          have PQ := Lib.hid (PD.out.put false)
          simp only [Bool.false_and] at HST
          go_wp2_with fail
          exact ⟨⟨k + 1, _, by omega, by simp, HST.out, PQ.out⟩, by simp [intOf]; omega⟩
        | true =>
          simp only [Bool.true_and] at HST
          obtain ⟨y, hy⟩ : ∃ y, objectB d = y := ⟨_, rfl⟩
          rw [hy] at HST CALL
          clear hy
          go_wp2_with fail
          refine CALL.out.mono ?_
          rintro z w4 ⟨rfl, n4⟩
          have PE := Lib.hid (PD.out.step n4)
          have PQ := Lib.hid (PE.out.put (!y))
          clear n4 CALL m0 m1 m2 mf d0 d1 d2 d3 d4 df
          obtain ⟨m0, m1, m2, mf⟩ := box3 PE.out.wk
          skip
          cases y with
          | true =>
            go_wp2_with fail
            exact ⟨⟨k + 1, _, by omega, by simp, HST.out, PQ.out⟩, by simp [intOf]; omega⟩
          | false =>
            go_wp2_with fail
            exact ⟨⟨k + 1, _, by omega, by simp, HST.out, PQ.out⟩, by simp [intOf]; omega⟩
    · have q : decide ((k : Int) < (no : Int)) = false := by simp; omega
      obtain rfl : no = k := by omega
      have hbd := HBD.out
      rw [List.take_of_length_le (by rw [NO.out]; omega)] at hbd
      have HB1 := Lib.hid hbd
      obtain ⟨p0, p1, pf⟩ := box2 HP.out.pb
      have P1 := HP
      clear hbd HBD HP
      go_wp2_with fail
      clear p0 p1 pf
      obtain ⟨bx, hbx⟩ : ∃ bx, bd = bx := ⟨_, rfl⟩
      rw [hbx] at P1 HB1
      clear hbx
      go_loopw [51] (fun v wr => ∃ (k : Nat) (b : Bool), k ≤ nt ∧ v = .int .i64 k ∧ b = (bx || (ts.take k).any fun t => ask && !nameB t.name) ∧ PgB w wr g ask b (.slice a0 no c0) (.slice a1 nt c1)) (fun v _ => nt - (intOf v).toNat)
      case atStart => exact ⟨0, bx, by omega, rfl, by simp, P1.out⟩
      case round =>
        obtain ⟨k, bd, hk, rfl, hbd, hP⟩ := hrel
        have HP := Lib.hid hP
        have HBD := Lib.hid hbd
        clear hP hbd P1
        by_cases hkn : k < nt
        · have q : decide ((k : Int) < (nt : Int)) = true := by simp; omega
          have hkl : k < ts.length := by have := NT.out; omega
          rcases (H1.out wr HP.out.on) with ⟨a, -, e2⟩ | ⟨gv, ov, cap, e1, -, -, hgv, h3⟩
          · rw [e2] at NT; exact absurd NT.out (by simp; omega)
          obtain ⟨rfl, -, rfl⟩ : a1 = some ⟨gv, ov, none⟩ ∧ nt = ts.length ∧ c1 = cap := by simpa using e1
          obtain ⟨cs, -, hc, ⟨bv, hd, hd1, -, hd2⟩⟩ := h3 k hkl
          obtain ⟨d, hdd⟩ : ∃ d, ts[k]'hkl = d := ⟨_, rfl⟩
          have hbody := HB.out _ (List.getElem_mem hkl)
          rw [hdd] at hd hd1 hd2 hbody
          rw [hbody] at hd2
          obtain ⟨ba, bc, rfl, -⟩ := RdK.nil hd2
          subst hd
          have e0 := hc 0 (by simp)
          have e1' := hc 1 (by simp)
          have e2 := hc 2 (by simp)
          simp only [List.getElem_cons_zero, List.getElem_cons_succ, Nat.add_zero] at e0 e1' e2
          have hgl : gv < wr.heap.size := hgv
          have HST : Hid ((bd || (ask && !nameB d.name)) = (bx || (ts.take (k + 1)).any fun t => ask && !nameB t.name)) := Lib.hid (by
            rw [HBD.out, any_take_succ hkl, hdd, Bool.or_assoc])
          clear hc h3 e1 hdd hgv hbody hd2
          have hbox : Hid (Mx wr) := Lib.hid (HM.out wr HP.out.on)
          go_upto_region 10 with fail
          have PD := Lib.hid (HP.out.step (Nw.alloc (Nw.refl wr) (.cells #[.string ⟨d.name.toArray⟩, .slice ba 0 bc, .int .i64 d.line] 93)))
          have CALL := Lib.hid (isName_ok (w := wr.alloc (.cells #[.string ⟨d.name.toArray⟩, .slice ba 0 bc, .int .i64 d.line] 93)) (hbox.out.nw (Nw.alloc (Nw.refl wr) _)) hd1)
          obtain ⟨wd, hwd⟩ : ∃ wd, wr.alloc (.cells #[.string ⟨d.name.toArray⟩, .slice ba 0 bc, .int .i64 d.line] 93) = wd := ⟨_, rfl⟩
          have DB : Hid (wd.heap[wr.heap.size]? = some (.cells #[.string ⟨d.name.toArray⟩, .slice ba 0 bc, .int .i64 d.line] 93 (0, 0))) := Lib.hid (by rw [← hwd]; exact heap_alloc_new wr _)
          rw [hwd] at PD CALL ⊢
          have hne : ¬ g = wr.heap.size := by have := lt_of_block HP.out.wk; omega
          have hne' : ¬ wr.heap.size = g := by omega
          clear hwd e0 e1' e2
          obtain ⟨m0, m1, m2, mf⟩ := box3 PD.out.wk
          obtain ⟨d0, d1, d2, df⟩ := box3 DB.out
          cases bd with
          | true =>
            have PQ := Lib.hid (PD.out.put true)
            simp only [Bool.true_or] at HST
            go_wp2_with fail
            exact ⟨⟨k + 1, _, by omega, by simp, HST.out, PQ.out⟩, by simp [intOf]; omega⟩
          | false =>
            simp only [Bool.false_or] at HST
            cases ask with
            | false =>
              have PQ := Lib.hid (PD.out.put false)
              simp only [Bool.false_and] at HST
              go_wp2_with fail
              refine (nostmts_ok _ _ _ _).mono ?_
              rintro z w9 ⟨rfl, rfl⟩
              go_wp2_with fail
              exact ⟨⟨k + 1, _, by omega, by simp, HST.out, PQ.out⟩, by simp [intOf]; omega⟩
            | true =>
              simp only [Bool.true_and] at HST
              obtain ⟨y, hy⟩ : ∃ y, nameB d.name = y := ⟨_, rfl⟩
              rw [hy] at HST CALL
              clear hy
              go_wp2_with fail
              refine CALL.out.mono ?_
              rintro z w4 ⟨rfl, n4⟩
              have PE := Lib.hid (PD.out.step n4)
              have PQ := Lib.hid (PE.out.put (!y))
              have DE := Lib.hid (n4.at_ DB.out)
              have hne : ¬ g = wr.heap.size := by have := lt_of_block HP.out.wk; omega
              have hne' : ¬ wr.heap.size = g := by omega
              clear n4 CALL m0 m1 m2 mf d0 d1 d2 df
              obtain ⟨m0, m1, m2, mf⟩ := box3 PE.out.wk
              obtain ⟨d0, d1, d2, df⟩ := box3 DE.out
              cases y with
              | true =>
                go_wp2_with fail
                refine (nostmts_ok _ _ _ _).mono ?_
                rintro z w9 ⟨rfl, rfl⟩
                go_wp2_with fail
                exact ⟨⟨k + 1, _, by omega, by simp, HST.out, PQ.out⟩, by simp [intOf]; omega⟩
              | false =>
                go_wp2_with fail
                exact ⟨⟨k + 1, _, by omega, by simp, HST.out, PQ.out⟩, by simp [intOf]; omega⟩
        · have q : decide ((k : Int) < (nt : Int)) = false := by simp; omega
          obtain rfl : nt = k := by omega
          have hbd := HBD.out
          rw [List.take_of_length_le (by rw [NT.out]; omega)] at hbd
          have HRES : Hid (bd = badB ask os ts) := Lib.hid (by rw [hbd, HB1.out, HX.out, badB])
          obtain ⟨m0, m1, m2, mf⟩ := box3 HP.out.wk
          clear hbd HBD
          go_wp2_with fail
          go_ret
          exact ⟨by rw [← HRES.out]; rfl, HP.out.on⟩
end Go.Proofs.YtcmaedoolinijaaGreatDoor

namespace Go.Proofs.YtcmaedoolinijaaGreatDoor
open Go Go.RowKit Go.Sort
set_option maxRecDepth 100000
set_option maxHeartbeats 3200000
theorem Right_ok {w : World} (hM : Mx w) {v0 v1 : Value} {os : List Dcl} {ts : List Thr} (h0 : RdK 5 isDcl w v0 os) (h1 : RdK 3 (isThr w) w v1 ts) (hb : ∀ t ∈ ts, t.body = []) :
    Calls Tryz.prog 72 #[.agg #[v0, v1]] w fun z w' => z = .returned (.bool (!badB true os ts)) ∧ Nw w w' := by
  obtain ⟨a0, c0, rfl, -⟩ := h0.len
  obtain ⟨a1, c1, rfl, -⟩ := h1.len
  obtain ⟨no, hno⟩ : ∃ n, os.length = n := ⟨_, rfl⟩
  obtain ⟨nt, hnt⟩ : ∃ n, ts.length = n := ⟨_, rfl⟩
  rw [hno] at h0 ⊢
  rw [hnt] at h1 ⊢
  clear hno hnt
  obtain ⟨wk, hwk⟩ : ∃ wk, (w.alloc (.cells #[.slice a0 no c0, .slice a1 nt c1] 51)).alloc (.cells #[.int .i64 0, .bool true, .bool false] 98) = wk := ⟨_, rfl⟩
  have TB := two_blk w #[.slice a0 no c0, .slice a1 nt c1] #[.int .i64 0, .bool true, .bool false] 51 98
  rw [hwk] at TB
  have PO := Lib.hid (program_ok (g := w.heap.size + 1) TB.2.2 (hM.nw TB.1) (by have := hM.lt; omega) (h0.nw TB.1) (h1.nwR TB.1 (fun _ _ h => h.nw TB.1)) hb)
  have N := Lib.hid TB.1
  obtain ⟨p0, p1, pf⟩ := box2 TB.2.1
  clear TB h0 h1 hb hM
  go_enter Tryz.func72, Tryz.ntmps72
  go_wp2_with fail
  refine PO.out.mono ?_
  rintro z w5 ⟨rfl, o5⟩
  have N5 : Hid (Nw w w5) := Lib.hid (N.out.trans' o5 (fun k hk e => absurd hk (by omega)))
  clear o5 PO
  go_wp2_with fail
  go_ret
  exact ⟨rfl, N5.out⟩
structure CkB (w wr : World) (g m clock : Nat) (L : List En) (lv v0 v1 : Value) : Prop where
  nw : Nw w wr
  pb : wr.heap[w.heap.size]? = some (.cells #[v0, v1] 51 (0, 0))
  rs : wr.heap[w.heap.size + 1]? = some (.cells (fltA 0 0) 43 (0, 0))
  kn : wr.heap[g]? = some (.cells #[.map (some m), lv] 151 (0, 0))
  mp : wr.heap[m]? = some (.map (ents L) clock)
  lt : w.heap.size + 1 < m
  mg : m < g
theorem CkB.on {w wr w' : World} {g m clock : Nat} {L : List En} {lv v0 v1 : Value} (h : CkB w wr g m clock L lv v0 v1) (ho : Nw wr w') : CkB w w' g m clock L lv v0 v1 :=
  ⟨h.nw.trans ho, ho.at_ h.pb, ho.at_ h.rs, ho.at_ h.kn, ho.at_ h.mp, h.lt, h.mg⟩
theorem CkB.add {w wr : World} {g m clock : Nat} {L : List En} {lv v0 v1 : Value} (h : CkB w wr g m clock L lv v0 v1) (e : En) : CkB w (World.setBlk wr m (.map (ents (L ++ [e])) (clock + 1))) g m (clock + 1) (L ++ [e]) lv v0 v1 where
  nw := h.nw.trans' (T := fun k => k = m) (Only.setBlk (S := fun k => k = m) (Only.refl wr) (fun _ => rfl) _) (fun k hk e => absurd hk (by have := h.lt; omega))
  pb := by rw [setBlk_other (by have := h.lt; omega)]; exact h.pb
  rs := by rw [setBlk_other (by have := h.lt; omega)]; exact h.rs
  kn := by rw [setBlk_other (by have := h.mg; omega)]; exact h.kn
  mp := setBlk_same h.mp
  lt := h.lt
  mg := h.mg
theorem CkB.loc {w wr : World} {g m clock : Nat} {L : List En} {lv v0 v1 : Value} (h : CkB w wr g m clock L lv v0 v1) (x : Nat) : CkB w (wr.setCell ⟨g, 1, none⟩ (.map (some x))) g m clock L (.map (some x)) v0 v1 where
  nw := Nw.put h.nw (by have := h.lt; have := h.mg; omega) _ _
  pb := by rw [heap_setCell_other _ _ _ _ (by have := h.lt; have := h.mg; simp; omega)]; exact h.pb
  rs := by rw [heap_setCell_other _ _ _ _ (by have := h.lt; have := h.mg; simp; omega)]; exact h.rs
  kn := by have := heap_put (i := 1) h.kn (.map (some x)); simpa using this
  mp := by rw [heap_setCell_other _ _ _ _ (by have := h.mg; simp; omega)]; exact h.mp
  lt := h.lt
  mg := h.mg
structure CkT (w wr : World) (g m clock : Nat) (L : List En) (lv v0 v1 : Value) (sb c2 : Nat) (S : List En) : Prop where
  ck : CkB w wr g m clock L lv v0 v1
  sn : wr.heap[sb]? = some (.map (ents S) c2)
  sg : g < sb
theorem CkT.on {w wr w' : World} {g m clock : Nat} {L : List En} {lv v0 v1 : Value} {sb c2 : Nat} {S : List En} (h : CkT w wr g m clock L lv v0 v1 sb c2 S) (ho : Nw wr w') : CkT w w' g m clock L lv v0 v1 sb c2 S := ⟨h.ck.on ho, ho.at_ h.sn, h.sg⟩
theorem CkT.loc {w wr : World} {g m clock : Nat} {L : List En} {lv v0 v1 : Value} {sb c2 : Nat} {S : List En} (h : CkT w wr g m clock L lv v0 v1 sb c2 S) (x : Nat) : CkT w (wr.setCell ⟨g, 1, none⟩ (.map (some x))) g m clock L (.map (some x)) v0 v1 sb c2 S :=
  ⟨h.ck.loc x, by rw [heap_setCell_other _ _ _ _ (by have := h.sg; simp; omega)]; exact h.sn, h.sg⟩
theorem CkT.add {w wr : World} {g m clock : Nat} {L : List En} {lv v0 v1 : Value} {sb c2 : Nat} {S : List En} (h : CkT w wr g m clock L lv v0 v1 sb c2 S) (e : En) : CkT w (World.setBlk wr sb (.map (ents (S ++ [e])) (c2 + 1))) g m clock L lv v0 v1 sb (c2 + 1) (S ++ [e]) where
  ck := ⟨h.ck.nw.trans' (T := fun k => k = sb) (Only.setBlk (S := fun k => k = sb) (Only.refl wr) (fun _ => rfl) _) (fun k hk e => absurd hk (by have := h.sg; have := h.ck.mg; have := h.ck.lt; omega)),
    by rw [setBlk_other (by have := h.sg; have := h.ck.mg; have := h.ck.lt; omega)]; exact h.ck.pb, by rw [setBlk_other (by have := h.sg; have := h.ck.mg; have := h.ck.lt; omega)]; exact h.ck.rs,
    by rw [setBlk_other (by have := h.sg; omega)]; exact h.ck.kn, by rw [setBlk_other (by have := h.sg; have := h.ck.mg; omega)]; exact h.ck.mp, h.ck.lt, h.ck.mg⟩
  sn := setBlk_same h.sn
  sg := h.sg
theorem nodup_new {α : Type} {l : List α} {k : Nat} (h : l.Nodup) (hk : k < l.length) : l[k] ∉ l.take k := by
  intro hm
  have : (l.take k ++ l.drop k).Nodup := by rw [List.take_append_drop]; exact h
  rw [List.drop_eq_getElem_cons hk] at this
  exact (List.nodup_append.1 this).2.2 _ hm _ List.mem_cons_self rfl
theorem Check_ok {w : World} (hM : Mx w) {v0 v1 : Value} {os : List Dcl} {ts : List Thr} (h0 : RdK 5 isDcl w v0 os) (h1 : RdK 3 (isThr w) w v1 ts) (hb : ∀ t ∈ ts, t.body = []) (hg : badB true os ts = false) (hk : ∀ d ∈ os, plainK d.kind) (hno : (os.map (·.name)).Nodup) (hnt : (ts.map (·.name)).Nodup) :
    Calls Tryz.prog 38 #[.agg #[v0, v1]] w fun z w' => z = .returned (.agg (fltA 0 0)) ∧ Nw w w' := by
  obtain ⟨a0, c0, rfl, hc0, hm0, -⟩ := h0.len
  obtain ⟨a1, c1, rfl, hc1, hm1, -⟩ := h1.len
  have hm0' : c0 ≤ 9223372036854775807 := by unfold maxLen at hm0; omega
  have hm1' : c1 ≤ 9223372036854775807 := by unfold maxLen at hm1; omega
  have H0 := Lib.hid (fun (W : World) (hW : Nw w W) => h0.nw hW)
  have H1 := Lib.hid (fun (W : World) (hW : Nw w W) => h1.nw hW)
  have RT := Lib.hid (fun (W : World) (hW : Nw w W) => by have := Right_ok (hM.nw hW) (h0.nw hW) (h1.nwR hW (fun _ _ h => h.nw hW)) hb; rw [hg] at this; exact this)
  obtain ⟨no, hnoo⟩ : ∃ n, os.length = n := ⟨_, rfl⟩
  obtain ⟨nt, hntt⟩ : ∃ n, ts.length = n := ⟨_, rfl⟩
  have NO := Lib.hid hnoo
  have NT := Lib.hid hntt
  have HB := Lib.hid hb
  have HK := Lib.hid hk
  have HNO := Lib.hid hno
  have HNT := Lib.hid hnt
  rw [hnoo] at hc0 RT H0 ⊢
  rw [hntt] at hc1 RT H1 ⊢
  have TB := Lib.hid (two_blk w #[.slice a0 no c0, .slice a1 nt c1] (fltA 0 0) 51 43)
  clear h0 h1 hb hg hk hno hnt hnoo hntt
  go_enter Tryz.func38, Tryz.ntmps38
  go_wp2_with fail
  refine (RT.out _ TB.out.1).mono ?_
  rintro z w1 ⟨rfl, n1⟩
  have N1 := Lib.hid (TB.out.1.trans n1)
  have PB := Lib.hid (n1.at_ TB.out.2.1)
  have RS := Lib.hid (n1.at_ TB.out.2.2)
  clear n1
  obtain ⟨p0, p1, pf⟩ := box2 PB.out
  have hpl := lt_of_block PB.out
  have hmm := @run_makeMap Tryz.prog
  go_wp2_with fail
  obtain ⟨m, hm⟩ : ∃ m, w1.heap.size = m := ⟨_, rfl⟩
  obtain ⟨g, hg⟩ : ∃ g, m + 1 = g := ⟨_, rfl⟩
  obtain ⟨w2, hw2⟩ : ∃ w2, (w1.alloc (.map #[] 0)).alloc (.cells #[.map (some m), .map none] 151) = w2 := ⟨_, rfl⟩
  have CB : Hid (CkB w w2 g m 0 [] (.map none) (.slice a0 no c0) (.slice a1 nt c1)) := Lib.hid (by
    have hn : Nw w1 w2 := by rw [← hw2]; exact ((Nw.refl w1).alloc _).alloc _
    have := N1.out.size
    refine ⟨N1.out.trans hn, hn.at_ PB.out, hn.at_ RS.out, ?_, ?_, by have := lt_of_block RS.out; omega, by omega⟩
    · rw [← hw2, ← hg, ← hm]
      have := heap_alloc_new (w1.alloc (.map #[] 0)) (.cells #[.map (some w1.heap.size), .map none] 151)
      simpa using this
    · rw [← hw2, heap_alloc_old _ _ (by simp; omega), ← hm]
      exact heap_alloc_new w1 _)
  rw [hm, hg, hw2]
  clear hw2 hm PB RS p0 p1 pf hpl N1 TB
  go_loopw [21] (fun v wr => ∃ (k clock : Nat) (L : List En), k ≤ no ∧ v = .int .i64 k ∧ L.map En.key = (os.take k).map (·.name) ∧ CkB w wr g m clock L (.map none) (.slice a0 no c0) (.slice a1 nt c1)) (fun v _ => no - (intOf v).toNat)
  case atStart => exact ⟨0, 0, [], by omega, rfl, by simp, CB.out⟩
  case round =>
    obtain ⟨k, clock, L, hk, rfl, hL, hC⟩ := hrel
    have HC := Lib.hid hC
    have HL := Lib.hid hL
    clear hC hL CB
    by_cases hkn : k < no
    · have q : decide ((k : Int) < (no : Int)) = true := by simp; omega
      have hkl : k < os.length := by have := NO.out; omega
      rcases H0.out wr HC.out.nw with ⟨a, -, e2⟩ | ⟨gv, ov, cap, e1, -, -, hgv, h3⟩
      · rw [e2] at NO; exact absurd NO.out (by simp; omega)
      obtain ⟨rfl, -, rfl⟩ : a0 = some ⟨gv, ov, none⟩ ∧ no = os.length ∧ c0 = cap := by simpa using e1
      obtain ⟨cs, -, hc, hd, hd1, hd2, -, hd3, -⟩ := h3 k hkl
      obtain ⟨d, hdd⟩ : ∃ d, os[k]'hkl = d := ⟨_, rfl⟩
      have hplain := HK.out _ (List.getElem_mem hkl)
      have hnew : Hid (d.name ∉ L.map En.key) := Lib.hid (by
        rw [HL.out, ← hdd, List.map_take]
        have := nodup_new HNO.out (k := k) (by simpa using hkl)
        simpa using this)
      have hkeys : Hid ((L ++ ([⟨d.name, .int .u8 (d.kind : Int), clock⟩] : List En)).map En.key = (os.take (k + 1)).map (·.name)) := Lib.hid (by
        rw [List.map_append, HL.out, List.take_succ_eq_append_getElem hkl, List.map_append, hdd]
        rfl)
      rw [hdd] at hd hd1 hd2 hd3 hplain
      subst hd
      have e0 := hc 0 (by simp)
      have e1' := hc 1 (by simp)
      have e2 := hc 2 (by simp)
      have e3 := hc 3 (by simp)
      have e4 := hc 4 (by simp)
      simp only [List.getElem_cons_zero, List.getElem_cons_succ, Nat.add_zero] at e0 e1' e2 e3 e4
      have hgl : gv < wr.heap.size := hgv
      have HPL := Lib.hid hplain
      clear hc h3 e1 hdd hgv hplain
      go_upto_region 7 with fail
      obtain ⟨wd, hwd⟩ : ∃ wd, wr.alloc (.cells (dclA d) 76) = wd := ⟨_, rfl⟩
      have CD : Hid (CkB w wd g m clock L (.map none) (.slice (some ⟨gv, ov, none⟩) no c0) (.slice a1 nt c1)) := Lib.hid (by rw [← hwd]; exact HC.out.on ((Nw.refl wr).alloc _))
      have DB : Hid (wd.heap[wr.heap.size]? = some (.cells (dclA d) 76 (0, 0))) := Lib.hid (by rw [← hwd]; exact heap_alloc_new wr _)
      unfold dclA at hwd
      rw [hwd]
      clear hwd e0 e1' e2 e3 e4
      obtain ⟨d0, d1, d2, d3, d4, df⟩ := box5 DB.out
      have KO := Lib.hid (kobj_ok CD.out.kn CD.out.mp HPL.out hnew.out)
      unfold dclA at KO
      go_wp2_with fail
      refine KO.out.mono ?_
      rintro z w4 ⟨rfl, n4⟩
      have C4 := Lib.hid (CD.out.on n4)
      have D4 := Lib.hid (n4.at_ DB.out)
      clear n4 KO d0 d1 d2 d3 d4 df CD
      obtain ⟨d0, d1, d2, d3, d4, df⟩ := box5 D4.out
      obtain ⟨k0, k1, kf⟩ := box2 C4.out.kn
      have hup := run_store_miss (P := Tryz.prog) (w := w4.drew) (t := 149) Tryz.underlying149 Tryz.underlying9 C4.out.mp hnew.out (.int .u8 (d.kind : Int))
      have C5 := Lib.hid ((C4.out.on ((Nw.refl w4).drew)).add ⟨d.name, .int .u8 (d.kind : Int), clock⟩)
      go_wp2_with fail
      go_region
      go_wp2_with fail
      refine ⟨⟨k + 1, _, _, by omega, by simp, hkeys.out, C5.out⟩, by simp [intOf]; omega⟩
    · have q : decide ((k : Int) < (no : Int)) = false := by simp; omega
      obtain ⟨p0, p1, pf⟩ := box2 HC.out.pb
      have hmm := @run_makeMap Tryz.prog
      have hpl := lt_of_block HC.out.pb
      go_wp2_with fail
      clear hmm p0 p1 pf hpl
      obtain ⟨sb, hsb⟩ : ∃ sb, wr.heap.size = sb := ⟨_, rfl⟩
      have CT : Hid (CkT w (wr.alloc (.map #[] 0)) g m clock L (.map none) (.slice a0 no c0) (.slice a1 nt c1) sb 0 []) := Lib.hid (by
        refine ⟨HC.out.on ((Nw.refl wr).alloc _), ?_, ?_⟩
        · rw [← hsb]; exact heap_alloc_new wr _
        · have := lt_of_block HC.out.kn; omega)
      rw [hsb]
      obtain ⟨wq, hwq⟩ : ∃ wq, wr.alloc (.map #[] 0) = wq := ⟨_, rfl⟩
      rw [hwq] at CT ⊢
      clear hwq hsb HC
      go_loopw [47] (fun v wr => ∃ (k c2 : Nat) (S : List En) (lv : Value), k ≤ nt ∧ v = .int .i64 k ∧ S.map En.key = (ts.take k).map (·.name) ∧ (∃ o, lv = .map o) ∧ CkT w wr g m clock L lv (.slice a0 no c0) (.slice a1 nt c1) sb c2 S) (fun v _ => nt - (intOf v).toNat)
      case atStart => exact ⟨0, 0, [], _, by omega, rfl, by simp, ⟨_, rfl⟩, CT.out⟩
      case round =>
        obtain ⟨k, c2, S, lv, hk, rfl, hS, ⟨lo, rfl⟩, hC⟩ := hrel
        have HC := Lib.hid hC
        have HS := Lib.hid hS
        clear hC hS CT
        by_cases hkn : k < nt
        · have q : decide ((k : Int) < (nt : Int)) = true := by simp; omega
          have hkl : k < ts.length := by have := NT.out; omega
          rcases H1.out wr HC.out.ck.nw with ⟨a, -, e2⟩ | ⟨gv, ov, cap, e1, -, -, hgv, h3⟩
          · rw [e2] at NT; exact absurd NT.out (by simp; omega)
          obtain ⟨rfl, -, rfl⟩ : a1 = some ⟨gv, ov, none⟩ ∧ nt = ts.length ∧ c1 = cap := by simpa using e1
          obtain ⟨cs, -, hc, ⟨bv, hd, hd1, -, hd2⟩⟩ := h3 k hkl
          obtain ⟨d, hdd⟩ : ∃ d, ts[k]'hkl = d := ⟨_, rfl⟩
          have hbody := HB.out _ (List.getElem_mem hkl)
          have hnew : Hid (d.name ∉ S.map En.key) := Lib.hid (by
            rw [HS.out, ← hdd, List.map_take]
            have := nodup_new HNT.out (k := k) (by simpa using hkl)
            simpa using this)
          have hkeys : Hid ((S ++ ([⟨d.name, .int .i64 1, c2⟩] : List En)).map En.key = (ts.take (k + 1)).map (·.name)) := Lib.hid (by
            rw [List.map_append, HS.out, List.take_succ_eq_append_getElem hkl, List.map_append, hdd]
            rfl)
          rw [hdd] at hd hd1 hd2 hbody
          rw [hbody] at hd2
          obtain ⟨ba, bc, rfl, -⟩ := RdK.nil hd2
          subst hd
          have e0 := hc 0 (by simp)
          have e1' := hc 1 (by simp)
          have e2 := hc 2 (by simp)
          simp only [List.getElem_cons_zero, List.getElem_cons_succ, Nat.add_zero] at e0 e1' e2
          have hgl : gv < wr.heap.size := hgv
          clear hc h3 e1 hdd hgv hbody hd2
          go_upto_region 16 with fail
          obtain ⟨wd, hwd⟩ : ∃ wd, wr.alloc (.cells #[.string ⟨d.name.toArray⟩, .slice ba 0 bc, .int .i64 d.line] 93) = wd := ⟨_, rfl⟩
          obtain ⟨tb, htb⟩ : ∃ tb, wr.heap.size = tb := ⟨_, rfl⟩
          have CD : Hid (CkT w wd g m clock L (.map lo) (.slice a0 no c0) (.slice (some ⟨gv, ov, none⟩) nt c1) sb c2 S) := Lib.hid (by rw [← hwd]; exact HC.out.on ((Nw.refl wr).alloc _))
          have DB : Hid (wd.heap[tb]? = some (.cells #[.string ⟨d.name.toArray⟩, .slice ba 0 bc, .int .i64 d.line] 93 (0, 0))) := Lib.hid (by rw [← hwd, ← htb]; exact heap_alloc_new wr _)
          have hst : sb < tb := by rw [← htb]; exact lt_of_block HC.out.sn
          rw [hwd, htb]
          clear hwd e0 e1' e2 htb hgl
          have CU := Lib.hid (CD.out.add ⟨d.name, .int .i64 1, c2⟩)
          have DU := Lib.hid ((setBlk_other (o' := .map (ents (S ++ [⟨d.name, .int .i64 1, c2⟩])) (c2 + 1)) (show tb ≠ sb by omega)).trans DB.out)
          have hlk := run_look_miss (P := Tryz.prog) (w := wd) (t := 101) Tryz.underlying101 Tryz.underlying9 (Tryz.zeroValue3 _) CD.out.sn hnew.out
          have hup := run_store_miss (P := Tryz.prog) (w := wd) (t := 101) Tryz.underlying101 Tryz.underlying9 CD.out.sn hnew.out (.int .i64 1)
          obtain ⟨d0, d1, d2, df⟩ := box3 DB.out
          go_upto_region 19 with fail
          obtain ⟨wu, hwu⟩ : ∃ wu, World.setBlk wd sb (.map (ents (S ++ [⟨d.name, .int .i64 1, c2⟩])) (c2 + 1)) = wu := ⟨_, rfl⟩
          rw [hwu] at CU DU ⊢
          clear hwu hlk hup d0 d1 d2 df DB CD
          obtain ⟨k0, k1, kf⟩ := box2 CU.out.ck.kn
          obtain ⟨d0, d1, d2, df⟩ := box3 DU.out
          have hgl := lt_of_block CU.out.ck.kn
          have htl := lt_of_block DU.out
          have hgt : ¬ g = tb := by have := CU.out.sg; omega
          have hgt' : ¬ tb = g := by omega
          have hmm := @run_makeMap Tryz.prog
          have CV := Lib.hid ((CU.out.loc wu.heap.size).on ((Nw.refl _).alloc (.map #[] 0)))
          have DV := Lib.hid ((heap_alloc_old (wu.setCell ⟨g, 1, none⟩ (.map (some wu.heap.size))) (.map #[] 0) (show tb < (wu.setCell ⟨g, 1, none⟩ (.map (some wu.heap.size))).heap.size by simpa using htl)).trans ((heap_setCell_other wu ⟨g, 1, none⟩ tb (.map (some wu.heap.size)) (by simp; omega)).trans DU.out))
          go_upto_region 20 with fail
          clear hmm
          obtain ⟨wv, hwv⟩ : ∃ wv, (wu.setCell ⟨g, 1, none⟩ (.map (some wu.heap.size))).alloc (.map #[] 0) = wv := ⟨_, rfl⟩
          rw [hwv] at CV DV ⊢
          clear hwv k0 k1 kf d0 d1 d2 df DU CU
          obtain ⟨d0, d1, d2, df⟩ := box3 DV.out
          have htl := lt_of_block DV.out
          go_wp2_with fail
          refine (knostmts_ok _ _ _).mono ?_
          rintro z w9 ⟨rfl, n9⟩
          have C9 := Lib.hid (CV.out.on n9)
          have D9 := Lib.hid (n9.at_ DV.out)
          clear n9 CV DV d0 d1 d2 df
          obtain ⟨d0, d1, d2, df⟩ := box3 D9.out
          have htl := lt_of_block D9.out
          unfold fltA
          go_wp2_with fail
          refine (nolong_ok _ _).mono ?_
          rintro z w10 ⟨rfl, rfl⟩
          go_wp2_with fail
          refine ⟨⟨k + 1, _, _, _, by omega, by simp, hkeys.out, ⟨_, rfl⟩, C9.out.on ((Nw.refl _).alloc _)⟩, by simp [intOf]; omega⟩
        · have q : decide ((k : Int) < (nt : Int)) = false := by simp; omega
          obtain ⟨r0, r1, rf⟩ := box2 HC.out.ck.rs
          go_wp2_with fail
          refine bodyPost_ret (v := .agg (fltA 0 0)) (by simp [results, Tryz.results38, go_sem, r0, r1, fltA]) rfl ⟨rfl, ?_⟩
          repeat (first | with_reducible exact HC.out.ck.nw | refine Nw.put ?_ (by omega) _ _)
end Go.Proofs.YtcmaedoolinijaaGreatDoor

namespace Go.Proofs.YtcmaedoolinijaaGreatDoor
open Go Go.RowKit Go.Sort
set_option maxRecDepth 100000
set_option maxHeartbeats 3200000
def isText0 (cs : List Value) (t : TextP) : Prop := cs = [.string ⟨t.name.toArray⟩, .slice none 0 0, .slice none 0 0] ∧ t.name.length ≤ 9223372036854775807 ∧ t.locals = [] ∧ t.code = []
theorem isText0.text {w : World} {cs : List Value} {t : TextP} (h : isText0 cs t) : isText w cs t := by
  obtain ⟨h1, h2, h3, h4⟩ := h
  exact ⟨_, _, h1, h2, by rw [h3]; exact .inl ⟨_, rfl, rfl⟩, by rw [h4]; exact .inl ⟨_, rfl, rfl⟩⟩
structure CpB (w wr : World) (cb m clock L : Nat) (E : List En) (os : List Dcl) (ts : List TextP) (v0 v1 x0 x1 : Value) : Prop where
  nw : Nw w wr
  pb : wr.heap[w.heap.size]? = some (.cells #[x0, x1] 51 (0, 0))
  r0 : wr.heap[w.heap.size + 1]? = some (.cells #[.slice none 0 0, .slice none 0 0] 25 (0, 0))
  r1 : wr.heap[w.heap.size + 2]? = some (.cells (fltA 0 0) 43 (0, 0))
  out : wr.heap[cb]? = some (.cells #[v0, v1] 25 (0, 0))
  mp : wr.heap[m]? = some (.map (ents E) clock)
  ob : VecR 5 isDcl wr v0 os
  th : VecR 3 isText0 wr v1 ts
  f0 : ∀ g, v0.ownBlock = some g → L ≤ g
  f1 : ∀ g, v1.ownBlock = some g → L ≤ g ∧ v0.ownBlock ≠ some g
  b1 : w.heap.size + 2 < cb
  b2 : cb < m
  b3 : m < L
  b5 : L ≤ wr.heap.size
section
variable {w wr w' w3 : World} {cb m clock L : Nat} {E : List En} {os : List Dcl} {ts : List TextP} {v0 v1 x0 x1 v0' v1' : Value} {cs c : List Value}
theorem CpB.on (h : CpB w wr cb m clock L E os ts v0 v1 x0 x1) (ho : Nw wr w') : CpB w w' cb m clock L E os ts v0 v1 x0 x1 :=
  ⟨h.nw.trans ho, ho.at_ h.pb, ho.at_ h.r0, ho.at_ h.r1, ho.at_ h.out, ho.at_ h.mp, h.ob.keep ho.size (fun g hg => ho.block g (h.ob.lt g hg) (fun hf => hf)), h.th.keep ho.size (fun g hg => ho.block g (h.th.lt g hg) (fun hf => hf)), h.f0, h.f1, h.b1, h.b2, h.b3, Nat.le_trans h.b5 ho.size⟩
theorem CpB.add (h : CpB w wr cb m clock L E os ts v0 v1 x0 x1) (e : En) : CpB w (World.setBlk wr m (.map (ents (E ++ [e])) (clock + 1))) cb m (clock + 1) L (E ++ [e]) os ts v0 v1 x0 x1 where
  nw := h.nw.trans' (T := fun k => k = m) (Only.setBlk (S := fun k => k = m) (Only.refl wr) (fun _ => rfl) _) (fun k hk e => absurd hk (by have := h.b1; have := h.b2; omega))
  pb := by rw [setBlk_other (by have := h.b1; have := h.b2; omega)]; exact h.pb
  r0 := by rw [setBlk_other (by have := h.b1; have := h.b2; omega)]; exact h.r0
  r1 := by rw [setBlk_other (by have := h.b1; have := h.b2; omega)]; exact h.r1
  out := by rw [setBlk_other (by have := h.b2; omega)]; exact h.out
  mp := setBlk_same h.mp
  ob := h.ob.keep (by simp) (fun g hg => setBlk_other (by have := h.f0 g hg; have := h.b3; omega))
  th := h.th.keep (by simp) (fun g hg => setBlk_other (by have := (h.f1 g hg).1; have := h.b3; omega))
  f0 := h.f0
  f1 := h.f1
  b1 := h.b1
  b2 := h.b2
  b3 := h.b3
  b5 := by simpa using h.b5
theorem CpB.obj {d : Dcl} (h : CpB w wr cb m clock L E os ts v0 v1 x0 x1) (hcs : cs.length = os.length * 5)
    (h0 : ∀ i (h : i < os.length), isDcl ((cs.drop (i * 5)).take 5) os[i]) (hA : Only (fun k => v0.ownBlock = some k) wr w3) (hV : Vec 5 w3 v0' (os.length + 1) (cs ++ c)) (hown : v0'.ownBlock = v0.ownBlock ∨ ∀ g, v0'.ownBlock = some g → wr.heap.size ≤ g) (hc : c.length = 5) (hd : isDcl c d) :
    CpB w (w3.setCell ⟨cb, 0, none⟩ v0') cb m clock L E (os ++ [d]) ts v0' v1 x0 x1 := by
  have k1 := h.b1
  have k2 := h.b2
  have k3 := h.b3
  have k5 := h.b5
  have hfr : ∀ k, k < L → ¬ v0.ownBlock = some k := fun k hk e => by have := h.f0 k e; omega
  have hO : Only (fun k => v0.ownBlock = some k ∨ k = cb) wr (w3.setCell ⟨cb, 0, none⟩ v0') := Only.put (hA.mono fun k _ h => .inl h) (.inr rfl) _ _
  have hn : ∀ k, k < L → k ≠ cb → ¬ (v0.ownBlock = some k ∨ k = cb) := fun k hk hp e => e.elim (fun e => by have := h.f0 k e; omega) hp
  have hf0 : ∀ g, v0'.ownBlock = some g → L ≤ g := fun g hg => by
    rcases hown with e | e
    · exact h.f0 g (by rw [← e]; exact hg)
    · have := e g hg; omega
  refine ⟨h.nw.trans' hO (fun k hk e => ?_), hO.at_ h.pb (hn _ (by omega) (by omega)), hO.at_ h.r0 (hn _ (by omega) (by omega)), hO.at_ h.r1 (hn _ (by omega) (by omega)), ?_, hO.at_ h.mp (hn _ (by omega) (by omega)),
    ?_, h.th.keep hO.size (fun g hg => hO.block g (h.th.lt g hg) ?_), hf0, ?_, h.b1, h.b2, h.b3, Nat.le_trans h.b5 hO.size⟩
  · rcases e with e | e
    · have := h.f0 k e; have := h.nw.size; omega
    · omega
  · have := heap_put (i := 0) (hA.at_ h.out (hfr cb (by omega))) v0'
    simpa using this
  · refine (VecR.snoc hV hcs hc h0 hd).keep (by simp) (fun g hg => heap_setCell_other _ _ _ _ (by have := hf0 g hg; simp; omega))
  · rintro (e | e)
    · exact (h.f1 g hg).2 e
    · have := (h.f1 g hg).1; omega
  · intro g hg
    refine ⟨(h.f1 g hg).1, fun e => ?_⟩
    rcases hown with e2 | e2
    · rw [e2] at e; exact (h.f1 g hg).2 e
    · have := e2 g e; have := h.th.lt g hg; omega
theorem CpB.thr {d : TextP} (h : CpB w wr cb m clock L E os ts v0 v1 x0 x1) (hcs : cs.length = ts.length * 3)
    (h0 : ∀ i (h : i < ts.length), isText0 ((cs.drop (i * 3)).take 3) ts[i]) (hA : Only (fun k => v1.ownBlock = some k) wr w3) (hV : Vec 3 w3 v1' (ts.length + 1) (cs ++ c)) (hown : v1'.ownBlock = v1.ownBlock ∨ ∀ g, v1'.ownBlock = some g → wr.heap.size ≤ g) (hc : c.length = 3) (hd : isText0 c d) :
    CpB w (w3.setCell ⟨cb, 1, none⟩ v1') cb m clock L E os (ts ++ [d]) v0 v1' x0 x1 := by
  have k1 := h.b1
  have k2 := h.b2
  have k3 := h.b3
  have k5 := h.b5
  have hfr : ∀ k, k < L → ¬ v1.ownBlock = some k := fun k hk e => by have := (h.f1 k e).1; omega
  have hO : Only (fun k => v1.ownBlock = some k ∨ k = cb) wr (w3.setCell ⟨cb, 1, none⟩ v1') := Only.put (hA.mono fun k _ h => .inl h) (.inr rfl) _ _
  have hn : ∀ k, k < L → k ≠ cb → ¬ (v1.ownBlock = some k ∨ k = cb) := fun k hk hp e => e.elim (fun e => by have := (h.f1 k e).1; omega) hp
  have hf1 : ∀ g, v1'.ownBlock = some g → L ≤ g := fun g hg => by
    rcases hown with e | e
    · exact (h.f1 g (by rw [← e]; exact hg)).1
    · have := e g hg; omega
  refine ⟨h.nw.trans' hO (fun k hk e => ?_), hO.at_ h.pb (hn _ (by omega) (by omega)), hO.at_ h.r0 (hn _ (by omega) (by omega)), hO.at_ h.r1 (hn _ (by omega) (by omega)), ?_, hO.at_ h.mp (hn _ (by omega) (by omega)),
    h.ob.keep hO.size (fun g hg => hO.block g (h.ob.lt g hg) ?_), ?_, h.f0, ?_, h.b1, h.b2, h.b3, Nat.le_trans h.b5 hO.size⟩
  · rcases e with e | e
    · have := (h.f1 k e).1; have := h.nw.size; omega
    · omega
  · have := heap_put (i := 1) (hA.at_ h.out (hfr cb (by omega))) v1'
    simpa using this
  · rintro (e | e)
    · exact (h.f1 g e).2 hg
    · have := h.f0 g hg; omega
  · refine (VecR.snoc hV hcs hc h0 hd).keep (by simp) (fun g hg => heap_setCell_other _ _ _ _ (by have := hf1 g hg; simp; omega))
  · intro g hg
    refine ⟨hf1 g hg, fun e => ?_⟩
    rcases hown with e2 | e2
    · rw [e2] at hg; exact (h.f1 g hg).2 e
    · have := e2 g hg; have := h.ob.lt g e; omega
end
theorem mkstmts_ok {w : World} (g : Nat) (a : Option Addr) (c : Nat) : Calls Tryz.prog 39 #[.pointer (some ⟨g, 0, none⟩), .slice a 0 c] w fun z w' => z = .returned (.tuple #[]) ∧ w' = w := by
  go_enter Tryz.func39, Tryz.ntmps39
  go_wp2_with fail
  go_loopw [14] (fun v wr => v = .int .i64 0 ∧ wr = w) (fun _ _ => 0)
  case atStart => exact ⟨rfl, rfl⟩
  case round =>
    obtain ⟨rfl, rfl⟩ := hrel
    go_wp2_with fail
    go_end0
    exact ⟨rfl, rfl⟩
theorem here_ok {w : World} {g : Nat} {a b c d : Value} {x : Option Addr} {n y : Nat} (h : w.heap[g]? = some (.cells #[a, b, c, .slice x n y, d] 104 (0, 0))) :
    Calls Tryz.prog 40 #[.pointer (some ⟨g, 0, none⟩)] w fun z w' => z = .returned (.int .i64 (n : Int)) ∧ w' = w := by
  obtain ⟨g0, g1, g2, g3, g4, gf⟩ := box5 h
  clear h
  go_enter Tryz.func40, Tryz.ntmps40
  go_wp2_with fail
  go_ret
  exact ⟨rfl, rfl⟩
end Go.Proofs.YtcmaedoolinijaaGreatDoor
