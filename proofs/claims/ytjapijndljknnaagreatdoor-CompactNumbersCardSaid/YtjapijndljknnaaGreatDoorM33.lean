/-
  Texts merged by a program of this claim's: CompA, UnpA, UnpB.
-/
import Derived.Test.YtjapijndljknnaaGreatDoorM18
import Derived.Test.YtjapijndljknnaaGreatDoorM32
import Derived.Test.YtjapijndljknnaaGreatDoorM20
import Derived.Test.YtjapijndljknnaaGreatDoorM22
import Derived.Laws.EntriesVeiled
import Derived.Deep.DeepCutAuto
/-
  Package compact, walked: gone, steps and the closures of Compact.
-/
namespace Go.Proofs.YtjapijndljknnaaGreatDoor
open Go Go.RowKit Go.Sort
set_option maxRecDepth 100000
set_option maxHeartbeats 1600000
theorem PEqual_ok {w : World} {v u : Value} {l : List Pc} (h : Pcs w v l) (h' : Pcs w u l) :
    Calls Tryz.prog 131 #[v, u] w fun e w' => e = .returned (.bool true) ∧ Nw w w' := by
  obtain ⟨la, lc, rfl, hl1, hl2, hle⟩ := h.elem
  obtain ⟨ka, kc, rfl, -, -, hke⟩ := h'.elem
  have HL := Lib.hid hle
  have HK := Lib.hid hke
  obtain ⟨n, hn⟩ : ∃ n, l.length = n := ⟨_, rfl⟩
  have HN := Lib.hid hn
  have hn63 : n ≤ 9223372036854775807 := by unfold maxLen at hl2; omega
  rw [hn]
  have hgd : Tryz.prog.eqGuardType Tryz.prog.depth 32 = false := by kernel_rfl
  clear h h' hle hke hl1 hl2 hn
  go_enter Tryz.func131, Tryz.ntmps131
  go_wp2
  go_loopw [13] (fun i wr => ∃ k : Nat, k ≤ n ∧ i = .int .i64 k ∧ Nw w wr) (fun i _ => n - (intOf i).toNat)
  case atStart => exact ⟨0, Nat.zero_le _, rfl, Nw.refl _⟩
  case round =>
    obtain ⟨k, hk, rfl, hwr⟩ := hrel
    have HW := Lib.hid hwr
    clear hwr
    by_cases hlt : k < n
    · have hkl : k < l.length := by rw [HN.out]; exact hlt
      obtain ⟨g, o, rfl, hg, c0, c1, c2, c3⟩ := HL.out k hkl
      obtain ⟨g2, o2, rfl, hg2, d0, d1, d2, d3⟩ := HK.out k hkl
      generalize l[k] = q at c0 c1 c2 c3 d0 d1 d2 d3
      have heq := neq_pc q
      have c0 := HW.out.cell c0
      have c1 := HW.out.cell c1
      have c2 := HW.out.cell c2
      have c3 := HW.out.cell c3
      have d0 := HW.out.cell d0
      have d1 := HW.out.cell d1
      have d2 := HW.out.cell d2
      have d3 := HW.out.cell d3
      have hg := Nat.lt_of_lt_of_le hg HW.out.size
      have hg2 := Nat.lt_of_lt_of_le hg2 HW.out.size
      clear hkl
      go_upto_region 6 with fail
      have c0 := cellG c0
      have c1 := cellG c1
      have c2 := cellG c2
      have c3 := cellG c3
      have d0 := cellG d0
      have d1 := cellG d1
      have d2 := cellG d2
      have d3 := cellG d3
      refine wp_region_quiet_below (by kernel_rfl) (by kernel_rfl) ?_
      repeat (first | go_big_quiet_step (fail) | quiet_step (fail))
      refine wpQuiet_nil ?_
      intro w2 hw2
      have hw2 := Lib.hid (Nw.of_regrown hw2)
      clear c0 c1 c2 c3 d0 d1 d2 d3 heq
      go_wp2
      go_roundw
      case rel => exact ⟨k + 1, by omega, by go_num, HW.out.trans hw2.out⟩
      case measure => simp [intOf]; omega
    · go_wp2
      go_ret
      exact ⟨rfl, HW.out⟩
section
variable {X : Nat → Prop} {w0 w : World} {b : Nat} {d : Dsk}
theorem cgone_ok (h : HasX X w0 w b d) (n : Str) :
    Calls Tryz.prog 95 #[.pointer (some ⟨b, 0, none⟩), .string ⟨n.toArray⟩] w (DidX X w0 w b (d.gone n).1 (.int .i64 (d.gone n).2)) := by
  have H := Lib.hid h
  clear h
  obtain ⟨d', x, hr⟩ : ∃ d' x, d.remove n = (d', x) := ⟨_, _, rfl⟩
  have R : Hid (d.gone n = (d', if x = 13 then 0 else x)) := Lib.hid (by unfold Dsk.gone; rw [hr])
  rw [R.out]
  by_cases hx : x = 13
  · subst hx
    go_enter Tryz.func95, Tryz.ntmps95
    go_wp2_with fail
    refine (H.out.remove n hr).mono ?_
    rintro e w1 ⟨rfl, q1, q2⟩
    go_wp2
    go_ret
    exact ⟨rfl, q1, q2⟩
  · have hb : (x != 13) = true := by simpa using hx
    have e : Hid ((if x = 13 then 0 else x) = x) := Lib.hid (if_neg hx)
    rw [e.out]
    go_enter Tryz.func95, Tryz.ntmps95
    go_wp2_with fail
    refine (H.out.remove n hr).mono ?_
    rintro e w1 ⟨rfl, q1, q2⟩
    go_wp2
    go_ret
    exact ⟨rfl, q1, q2⟩
end
theorem csteps_ok {w : World} (fs : List (Nat × Array Value)) (S : Nat → World → Prop) (T : Int → World → Prop) (g o cap : Nat) (hlen : fs.length ≤ 1000)
    (hen : ∀ i (h : i < fs.length), Enters Tryz.prog fs[i].1) (hcell : ∀ i W, S i W → ∀ j (h : j < fs.length), W.cell? ⟨g, o + j, none⟩ = some (fnV fs[j]))
    (hdo : ∀ i (h : i < fs.length) W, S i W → Calls Tryz.prog fs[i].1 fs[i].2 W fun e W' => ∃ x, e = .returned (.int .i64 x) ∧ ((x = 0 ∧ S (i + 1) W') ∨ (x ≠ 0 ∧ T x W')))
    (h0 : S 0 w) : Calls Tryz.prog 101 #[.slice (some ⟨g, o, none⟩) fs.length cap] w fun e W' => ∃ x, e = .returned (.int .i64 x) ∧ ((x = 0 ∧ S fs.length W') ∨ (x ≠ 0 ∧ T x W')) := by
  unfold Enters at hen
  have HEN := Lib.hid hen
  have HC := Lib.hid hcell
  have HD := Lib.hid hdo
  clear hen hcell hdo
  obtain ⟨n, hn⟩ : ∃ n, fs.length = n := ⟨_, rfl⟩
  have HN := Lib.hid hn
  rw [hn] at hlen ⊢
  clear hn
  go_enter Tryz.func101, Tryz.ntmps101
  go_wp2
  go_loopw [8] (fun i wr => ∃ k : Nat, k ≤ n ∧ i = .int .i64 k ∧ S k wr) (fun i _ => n - (intOf i).toNat)
  case atStart => exact ⟨0, by omega, rfl, h0⟩
  case round =>
    obtain ⟨k, hk, rfl, hs⟩ := hrel
    by_cases hlt : k < n
    · have hkl : k < fs.length := by rw [HN.out]; exact hlt
      have c0 := HC.out k wr hs k hkl
      have hgl : g < wr.heap.size := World.block_lt_of_cell? _ _ c0
      have en := HEN.out k hkl
      have cd := Lib.hid (HD.out k hkl wr hs)
      generalize fs[k] = F at c0 en cd
      obtain ⟨f, c⟩ := F
      unfold fnV at c0
      simp only at c0 en cd
      clear hs
      go_wp2_with (refine cd.out.mono ?_)
      rintro e w1 ⟨x, rfl, ⟨rfl, hs1⟩ | ⟨hx, ht⟩⟩
      · have S1 := Lib.hid hs1
        clear hs1
        go_wp2
        go_roundw
        case rel => exact ⟨k + 1, by omega, by go_num, S1.out⟩
        case measure => simp [intOf]; omega
      · have hb : (x != 0) = true := by simpa using hx
        go_wp2
        go_ret
        exact ⟨x, rfl, .inr ⟨hx, ht⟩⟩
    · obtain rfl : k = n := by omega
      go_wp2
      go_ret
      exact ⟨0, rfl, .inl ⟨rfl, hs⟩⟩

section
variable {X : Nat → Prop} {w0 w : World} {p b pd pn pb pl po pq : Nat} {d : Dsk} {L : Lg} {n : Str}
theorem CompF1_ok (h : HasL X w0 w p b d L) (hd : w.cell? ⟨pd, 0, none⟩ = some (.pointer (some ⟨b, 0, none⟩))) (hn : w.cell? ⟨pn, 0, none⟩ = some (.string ⟨n.toArray⟩)) :
    Calls Tryz.prog 94 #[.pointer (some ⟨pd, 0, none⟩), .pointer (some ⟨pn, 0, none⟩)] w (DidL X w0 w p b (d.gone n).1 L (.int .i64 (d.gone n).2)) := by
  have H := Lib.hid (h.step fun _ _ hY => cgone_ok hY n)
  clear h
  generalize d.gone n = r0 at H ⊢
  go_enter Tryz.func94, Tryz.ntmps94
  go_wp2_with fail
  refine H.out.mono ?_
  rintro e w1 ⟨rfl, q1, q2⟩
  go_wp2
  go_ret
  exact ⟨rfl, q1, q2⟩
theorem CompF2_ok (h : HasL X w0 w p b d L) (hd : w.cell? ⟨pd, 0, none⟩ = some (.pointer (some ⟨b, 0, none⟩))) (hn : w.cell? ⟨pn, 0, none⟩ = some (.string ⟨n.toArray⟩)) {a : Option Addr} {m c : Nat} {l : List UInt8} (hb : w.cell? ⟨pb, 0, none⟩ = some (.slice a m c)) (hs : Bs w (.slice a m c) l) (hX : ∀ g, (Value.slice a m c).ownBlock = some g → X g) (hnl : n.length ≤ 9223372036854775807) (hll : l.length ≤ 140737488355328) :
    Calls Tryz.prog 96 #[.pointer (some ⟨pd, 0, none⟩), .pointer (some ⟨pn, 0, none⟩), .pointer (some ⟨pb, 0, none⟩)] w (DidL X w0 w p b (d.append n l).1 L (.int .i64 (d.append n l).2)) := by
  have H := Lib.hid (h.step fun _ hXY hY => hY.append n l _ hs (fun _ g hg => .inl (hXY g (hX g hg))) hnl hll (two_eta _))
  clear h
  generalize d.append n l = r0 at H ⊢
  go_enter Tryz.func96, Tryz.ntmps96
  go_wp2_with fail
  refine H.out.mono ?_
  rintro e w1 ⟨rfl, q1, q2⟩
  go_wp2
  go_ret
  exact ⟨rfl, q1, q2⟩
theorem CompF3_ok (h : HasL X w0 w p b d L) (hd : w.cell? ⟨pd, 0, none⟩ = some (.pointer (some ⟨b, 0, none⟩))) (hn : w.cell? ⟨pn, 0, none⟩ = some (.string ⟨n.toArray⟩)) :
    Calls Tryz.prog 97 #[.pointer (some ⟨pd, 0, none⟩), .pointer (some ⟨pn, 0, none⟩)] w (DidL X w0 w p b (d.sync n).1 L (.int .i64 (d.sync n).2)) := by
  have H := Lib.hid (h.step fun _ _ hY => hY.sync n (two_eta _))
  clear h
  generalize d.sync n = r0 at H ⊢
  go_enter Tryz.func97, Tryz.ntmps97
  go_wp2_with fail
  refine H.out.mono ?_
  rintro e w1 ⟨rfl, q1, q2⟩
  go_wp2
  go_ret
  exact ⟨rfl, q1, q2⟩
theorem CompF5_ok (h : HasL X w0 w p b d L) (hd : w.cell? ⟨pd, 0, none⟩ = some (.pointer (some ⟨b, 0, none⟩))) (hq : w.cell? ⟨pq, 0, none⟩ = some (.string ⟨n.toArray⟩)) :
    Calls Tryz.prog 99 #[.pointer (some ⟨pd, 0, none⟩), .pointer (some ⟨pq, 0, none⟩)] w (DidL X w0 w p b (d.remove n).1 L (.int .i64 (d.remove n).2)) := by
  have H := Lib.hid (h.step fun _ _ hY => hY.remove n (two_eta _))
  clear h
  generalize d.remove n = r0 at H ⊢
  go_enter Tryz.func99, Tryz.ntmps99
  go_wp2_with fail
  refine H.out.mono ?_
  rintro e w1 ⟨rfl, q1, q2⟩
  go_wp2
  go_ret
  exact ⟨rfl, q1, q2⟩
theorem CompF4_ok {k : Nat} (h : HasL X w0 w p b d L) (hl : w.cell? ⟨pl, 0, none⟩ = some (.pointer (some ⟨p, 0, none⟩))) (hn : w.cell? ⟨pn, 0, none⟩ = some (.string ⟨(dName k).toArray⟩)) (ho : w.cell? ⟨po, 1, none⟩ = some (.int .i64 k)) (hpl : pl < w.heap.size) (hpn : pn < w.heap.size) (hpo : po < w.heap.size) (hk : k < 2 ^ 60) :
    Calls Tryz.prog 98 #[.pointer (some ⟨pl, 0, none⟩), .pointer (some ⟨pn, 0, none⟩), .pointer (some ⟨po, 0, none⟩)] w (DidL X w0 w p b (L.swap d [densePc k]).d (L.swap d [densePc k]).L (.int .i64 (L.swap d [densePc k]).e)) := by
  have hn1 := (Nw.refl w).alloc (.cells #[.string ⟨(dName k).toArray⟩, .int .i64 0, .int .i64 k, .bool true] 32 (0, 0))
  have hs := src_lit w 32 (0, 0) 4 1 1 ([.string ⟨(dName k).toArray⟩, .int .i64 0, .int .i64 k, .bool true] : List Value) rfl (by omega) (by decide)
  have hp : Pcs (w.alloc (.cells #[.string ⟨(dName k).toArray⟩, .int .i64 0, .int .i64 k, .bool true] 32 (0, 0))) (.slice (some ⟨w.heap.size, 0, none⟩) 1 1) [densePc k] := ⟨hs, fun q hq => by
    rw [List.mem_singleton.1 hq]
    have hl := Lib.nDigits_le20 k (by omega)
    have hd := Lib.decDigits_length k
    exact ⟨by simp only [densePc, dName, List.length_cons]; omega, ⟨by simp [densePc], by simp [densePc]⟩, ⟨by simp only [densePc]; omega, by simp only [densePc]; omega⟩⟩⟩
  have H := Lib.hid (Swap_ok (h.nw hn1) hp (by simp))
  have N1 := Lib.hid hn1
  clear h hs hp hn1
  generalize L.swap d [densePc k] = r0 at H ⊢
  go_enter Tryz.func98, Tryz.ntmps98
  go_wp2_with fail
  refine H.out.mono ?_
  rintro e w1 ⟨rfl, q1, q2⟩
  go_wp2
  go_ret
  exact ⟨rfl, q1, N1.out.kept.trans q2⟩
end
end Go.Proofs.YtjapijndljknnaaGreatDoor

/-
  Package segment, walked: the columns of the denser coding. Printed by wip/gen_unpa.py.
-/
namespace Go.Proofs.YtjapijndljknnaaGreatDoor
open Go Go.RowKit Go.Sort
set_option maxRecDepth 100000
set_option maxHeartbeats 1600000

def pickFs : Array Nat := #[177, 178, 179, 180, 181]
def putFs : Array Nat := #[182, 183, 184, 185, 186]
section
variable {w : World} {g o : Nat} {u : Value} {v : Int}
theorem put0_ok (hg : g < w.heap.size) (h : w.cell? ⟨g, o, none⟩ = some u) (hf : w.frozen? ⟨g, o, none⟩ = false) :
    Calls Tryz.prog 182 #[.pointer (some ⟨g, o, none⟩), .int .i64 v] w fun e w' => e = .returned (.bool true) ∧ w' = w.setCell ⟨g, o, none⟩ (.int .i64 v) := by
  go_enter Tryz.func182, Tryz.ntmps182
  go_wp2
  go_ret
  exact ⟨rfl, rfl⟩
theorem put2_ok (hg : g < w.heap.size) (h : w.cell? ⟨g, o + 2, none⟩ = some u) (hf : w.frozen? ⟨g, o + 2, none⟩ = false) :
    Calls Tryz.prog 184 #[.pointer (some ⟨g, o, none⟩), .int .i64 v] w fun e w' => e = .returned (.bool true) ∧ w' = w.setCell ⟨g, o + 2, none⟩ (.int .i64 v) := by
  go_enter Tryz.func184, Tryz.ntmps184
  go_wp2
  go_ret
  exact ⟨rfl, rfl⟩
theorem put3_ok (hg : g < w.heap.size) (h : w.cell? ⟨g, o + 3, none⟩ = some u) (hf : w.frozen? ⟨g, o + 3, none⟩ = false) :
    Calls Tryz.prog 185 #[.pointer (some ⟨g, o, none⟩), .int .i64 v] w fun e w' => e = .returned (.bool true) ∧ w' = w.setCell ⟨g, o + 3, none⟩ (.int .i64 v) := by
  go_enter Tryz.func185, Tryz.ntmps185
  go_wp2
  go_ret
  exact ⟨rfl, rfl⟩
theorem put4_ok (hg : g < w.heap.size) (h : w.cell? ⟨g, o + 4, none⟩ = some u) (hf : w.frozen? ⟨g, o + 4, none⟩ = false) :
    Calls Tryz.prog 186 #[.pointer (some ⟨g, o, none⟩), .int .i64 v] w fun e w' => e = .returned (.bool true) ∧ w' = w.setCell ⟨g, o + 4, none⟩ (.int .i64 v) := by
  go_enter Tryz.func186, Tryz.ntmps186
  go_wp2
  go_ret
  exact ⟨rfl, rfl⟩
theorem put1_ok (hg : g < w.heap.size) (h : w.cell? ⟨g, o + 1, none⟩ = some u) (hf : w.frozen? ⟨g, o + 1, none⟩ = false) :
    Calls Tryz.prog 183 #[.pointer (some ⟨g, o, none⟩), .int .i64 v] w fun e w' => e = .returned (.bool (okOp v)) ∧ w' = w.setCell ⟨g, o + 1, none⟩ (.int .u8 (v % 256)) := by
  by_cases h0 : 0 ≤ v
  · by_cases h1 : v ≤ 255
    · have hm : v % 256 = v := by omega
      rw [hm]
      go_enter Tryz.func183, Tryz.ntmps183
      go_wp2
      go_ret
      exact ⟨by simp [okOp, h0, h1], rfl⟩
    · go_enter Tryz.func183, Tryz.ntmps183
      go_wp2
      go_ret
      exact ⟨by simp [okOp, h0, h1], rfl⟩
  · have h1 : v < 0 := by omega
    go_enter Tryz.func183, Tryz.ntmps183
    go_wp2
    go_ret
    exact ⟨by simp [okOp]; omega, rfl⟩
theorem columns_ok : Calls Tryz.prog 161 #[] w fun e w' => e = .returned (.tuple #[.agg (pickFs.map fun f => .func (.func f) #[] #[]), .agg (putFs.map fun f => .func (.func f) #[] #[])]) ∧ Nw w w' := by
  go_enter Tryz.func161, Tryz.ntmps161
  go_wp2
  go_region
  all_goals go_wp2
  refine bodyPost_ret (v := .tuple #[.agg (pickFs.map fun f => .func (.func f) #[] #[]), .agg (putFs.map fun f => .func (.func f) #[] #[])]) (by simp [results, Tryz.results161, go_sem, pickFs, putFs]) rfl ⟨rfl, ((((Nw.refl w).alloc _).alloc _).alloc _).alloc _ |>.drew⟩
end
end Go.Proofs.YtjapijndljknnaaGreatDoor

/-
  Package segment, walked: column.
-/
namespace Go.Proofs.YtjapijndljknnaaGreatDoor
open Go Go.RowKit Go.Sort
set_option maxRecDepth 100000
set_option maxHeartbeats 1600000

/-- One element is written. -/
theorem Vec.setAt {k n cap g o j : Nat} {w : World} {cs : List Value} (h : Vec k w (.slice (some ⟨g, o, none⟩) n cap) n cs) (hj : j < cs.length) (u : Value) :
    Vec k (w.setCell ⟨g, o + j, none⟩ u) (.slice (some ⟨g, o, none⟩) n cap) n (cs.set j u) := by
  obtain ⟨h0, ⟨h, -⟩ | ⟨g', o', cap', he, h1, h2, h3, h4, h5, h6⟩⟩ := h
  · cases h
  · obtain ⟨⟨rfl, rfl⟩, rfl⟩ : (g = g' ∧ o = o') ∧ cap = cap' := by simpa using he
    refine ⟨by simpa using h0, .inr ⟨g, o, cap, rfl, h1, h2, by simpa [World.setCell] using h3, fun i hi => ?_, fun i hi => (World.frozen?_setCell _ _ _ _).trans (h5 i hi), fun i hi => ?_⟩⟩
    · by_cases e : i = j
      · subst e
        rw [World.cell?_setCell_same _ _ _ (h6 i hj)]; rfl
      · rw [World.cell?_setCell_other _ _ _ _ (by simp <;> omega)]; exact h4 i hi
    · rw [List.getElem_set]
      split
      · rename_i e; subst e
        exact World.cell?_setCell_same _ _ _ (h6 _ hj)
      · rename_i e
        rw [World.cell?_setCell_other _ _ _ _ (by simp <;> omega)]
        exact h6 i (by simpa using hi)
theorem set_flat (e' : Ev) {u : Value} {c : Nat} : ∀ (l : List Ev) (i : Nat) (hi : i < l.length), c < 5 → evV e' = (evV l[i]).set c u → (l.flatMap evV).set (i * 5 + c) u = (l.set i e').flatMap evV
  | [], i, hi, _, _ => by simp at hi
  | e :: l, 0, hi, hc, he => by
    simp only [List.getElem_cons_zero] at he
    rw [List.flatMap_cons, List.set_cons_zero, List.flatMap_cons, he, List.set_append, if_pos (by simp [evV]; omega), Nat.zero_mul, Nat.zero_add]
  | e :: l, i + 1, hi, hc, he => by
    simp only [List.getElem_cons_succ] at he
    rw [List.flatMap_cons, List.set_cons_succ, List.flatMap_cons, List.set_append, if_neg (by simp [evV]; omega), ← set_flat e' l i (by simpa using hi) hc he]
    congr 2
    simp [evV]; omega
/-- What a closure 'put' does. -/
structure PutCol (f : FuncId) (set : Ev → Int → Ev) (ok : Int → Bool) (c : Nat) (val : Int → Value) : Prop where
  en : Enters Tryz.prog f
  c5 : c < 5
  vals : ∀ e v, evV (set e v) = (evV e).set c (val v)
  call : ∀ (w : World) (g o : Nat) (u : Value) (v : Int), g < w.heap.size → w.cell? ⟨g, o + c, none⟩ = some u → w.frozen? ⟨g, o + c, none⟩ = false → Calls Tryz.prog f #[.pointer (some ⟨g, o, none⟩), .int .i64 v] w fun e w' => e = .returned (.bool (ok v)) ∧ w' = w.setCell ⟨g, o + c, none⟩ (val v)
theorem putOk0 : PutCol 182 setT okAny 0 (fun v => .int .i64 v) :=
  ⟨enters_of Tryz.func182 (by kernel_rfl) (by kernel_rfl), by decide, fun _ _ => rfl, fun _ _ _ _ _ h1 h2 h3 => put0_ok h1 h2 h3⟩
theorem putOk1 : PutCol 183 setOp okOp 1 (fun v => .int .u8 (v % 256)) :=
  ⟨enters_of Tryz.func183 (by kernel_rfl) (by kernel_rfl), by decide, fun e v => by
    have h : (((v % 256).toNat % 256 : Nat) : Int) = v % 256 := by omega
    simp [evV, setOp, h], fun _ _ _ _ _ h1 h2 h3 => put1_ok h1 h2 h3⟩
theorem putOk2 : PutCol 184 setObj okAny 2 (fun v => .int .i64 v) :=
  ⟨enters_of Tryz.func184 (by kernel_rfl) (by kernel_rfl), by decide, fun _ _ => rfl, fun _ _ _ _ _ h1 h2 h3 => put2_ok h1 h2 h3⟩
theorem putOk3 : PutCol 185 setA okAny 3 (fun v => .int .i64 v) :=
  ⟨enters_of Tryz.func185 (by kernel_rfl) (by kernel_rfl), by decide, fun _ _ => rfl, fun _ _ _ _ _ h1 h2 h3 => put3_ok h1 h2 h3⟩
theorem putOk4 : PutCol 186 setB okAny 4 (fun v => .int .i64 v) :=
  ⟨enters_of Tryz.func186 (by kernel_rfl) (by kernel_rfl), by decide, fun _ _ => rfl, fun _ _ _ _ _ h1 h2 h3 => put4_ok h1 h2 h3⟩
/-- The events behind the first values of a column. -/
def halfE (set : Ev → Int → Ev) (es : List Ev) (acc : List Int) : List Ev := List.zipWith set es acc ++ es.drop acc.length
theorem halfE_len (set : Ev → Int → Ev) (es : List Ev) (acc : List Int) (h : acc.length ≤ es.length) : (halfE set es acc).length = es.length := by
  simp [halfE]; omega
theorem halfE_full (set : Ev → Int → Ev) (es : List Ev) (acc : List Int) (h : acc.length = es.length) : halfE set es acc = List.zipWith set es acc := by
  simp [halfE, h]
theorem halfE_snoc (set : Ev → Int → Ev) (es : List Ev) (acc : List Int) (v : Int) (h : acc.length < es.length) :
    ∃ hl : acc.length < (halfE set es acc).length, (halfE set es acc).set acc.length (set (halfE set es acc)[acc.length] v) = halfE set es (acc ++ [v]) := by
  have hl : acc.length < (halfE set es acc).length := by rw [halfE_len _ _ _ (by omega)]; exact h
  refine ⟨hl, ?_⟩
  have hz : (List.zipWith set es acc).length = acc.length := by simp; omega
  have e1 : es.drop acc.length = es[acc.length] :: es.drop (acc.length + 1) := List.drop_eq_getElem_cons h
  have e2 : (halfE set es acc)[acc.length]'hl = es[acc.length] := by
    simp only [halfE, List.getElem_append, hz, Nat.lt_irrefl, dite_false, Nat.sub_self, List.getElem_drop, Nat.add_zero]
  rw [e2]
  unfold halfE
  rw [List.set_append, if_neg (by omega), hz, Nat.sub_self, e1, List.set_cons_zero, List.length_append, List.length_singleton]
  have : List.zipWith set es (acc ++ [v]) = List.zipWith set es acc ++ [set es[acc.length] v] := by
    conv => lhs; rw [← List.take_append_drop acc.length es, e1]
    rw [List.zipWith_append (by simp; omega)]
    congr 1
    · conv => rhs; rw [← List.take_append_drop acc.length es]
      rw [show acc = acc ++ [] by simp, List.zipWith_append (by simp; omega)]
      simp
    · rw [List.zipWith_cons_cons, List.zipWith_nil_right]
  rw [this, List.append_assoc]; rfl
theorem replicate_sums (n x : Int) (j : Nat) : sums n (List.replicate (j + 1) x) = sums n (List.replicate j x) ++ [w64 (lastD n (sums n (List.replicate j x)) + x)] := by
  rw [List.replicate_succ', sums_append]; rfl
theorem lastD_snoc (n v : Int) (l : List Int) : lastD n (l ++ [v]) = v := by simp [lastD]
/-- What column does. -/
def ColP (W : World) (g o N cap : Nat) (set : Ev → Int → Ev) (es : List Ev) (R : Option (List Int × Int)) (z : Ending) (w' : World) : Prop := Nw W w' ∧
  ((R = none ∧ z = .returned (.tuple #[.int .i64 0, .bool false])) ∨ ∃ vs x, R = some (vs, x) ∧ z = .returned (.tuple #[.int .i64 x, .bool true]) ∧ Vec 5 w' (.slice (some ⟨g, o, none⟩) N cap) N ((List.zipWith set es vs).flatMap evV) ∧ vs.length = es.length ∧ in64 x)
theorem column_ok {W w : World} {v : Value} {b : List UInt8} (hv : Bs W v b) (hW : Nw W w) {at_ : Int} (ha : in64 at_) {es : List Ev} {g o N cap : Nat} (hN : es.length = N) (hNm : N ≤ 1048576) (hg : W.heap.size ≤ g) (hs : Vec 5 w (.slice (some ⟨g, o, none⟩) N cap) N (es.flatMap evV))
    {f : FuncId} {set : Ev → Int → Ev} {ok : Int → Bool} {c : Nat} {val : Int → Value} (hp : PutCol f set ok c val) :
    Calls Tryz.prog 191 #[v, .int .i64 at_, .slice (some ⟨g, o, none⟩) N cap, .func (.func f) #[] #[]] w (ColP W g o N cap set es (colR b ok N true 0 0 at_ [])) := by
  obtain ⟨a, vc, rfl, hv1, hv2, -⟩ := hv.elems
  have hb63 : b.length ≤ 9223372036854775807 := by unfold maxLen at hv2; omega
  have HV := Lib.hid hv
  have HP := Lib.hid hp
  have en := hp.en
  unfold Enters at en
  have hc5 := hp.c5
  have HN := Lib.hid hN
  obtain ⟨R, hR⟩ : ∃ r, colR b ok N true 0 0 at_ [] = r := ⟨_, rfl⟩
  rw [hR]
  have HR := Lib.hid hR
  have HS := Lib.hid hs
  have HW := Lib.hid hW
  clear hv hp hN hR hs hW hv1 hv2
  go_enter Tryz.func191, Tryz.ntmps191
  go_wp2
  go_loopw [1, 10, 11, 12] (fun av nv lv iv wr => ∃ (at1 n0 l0 : Int) (acc : List Int), av = .int .i64 at1 ∧ nv = .int .i64 n0 ∧ lv = .int .i64 l0 ∧ iv = .int .i64 acc.length ∧ acc.length ≤ N ∧ in64 at1 ∧ colR b ok (N - acc.length) (decide (acc.length = 0)) l0 n0 at1 acc = R ∧
    Vec 5 wr (.slice (some ⟨g, o, none⟩) N cap) N ((halfE set es acc).flatMap evV) ∧ Nw W wr) (fun _ _ _ iv _ => N - (intOf iv).toNat)
  case atStart => exact ⟨at_, 0, 0, [], rfl, rfl, rfl, rfl, Nat.zero_le _, ha, HR.out, by simpa [halfE] using HS.out, HW.out⟩
  case round =>
    obtain ⟨at1, n0, l0, acc, rfl, rfl, rfl, rfl, hacc, hat, hr, hs1, hw1⟩ := hrel
    clear HR HS HW ha
    have HR := Lib.hid hr
    have HS := Lib.hid hs1
    have HW := Lib.hid hw1
    clear hr hs1 hw1
    obtain ⟨k, hk⟩ : ∃ k, acc.length = k := ⟨_, rfl⟩
    rw [hk] at hacc HR ⊢
    have HK := Lib.hid hk
    clear hk
    by_cases hlt : k < N
    case neg =>
      obtain rfl : k = N := by omega
      have hr := HR.out
      rw [Nat.sub_self, colR_zero] at hr
      have hl : acc.length = es.length := by rw [HK.out, HN.out]
      have HF := Lib.hid (halfE_full set es acc hl)
      go_wp2
      go_ret2
      exact ⟨HW.out, .inr ⟨acc, at1, hr.symm, rfl, by rw [← HF.out]; exact HS.out, hl, hat⟩⟩
    obtain ⟨⟨x, p1, e1⟩, hgi⟩ : ∃ y, getI b at1 = y := ⟨_, rfl⟩
    have C1 := Lib.hid (GetInt_ok (HV.out.nw HW.out) at1 hat hgi)
    have hun := HR.out
    unfold colR at hun
    rw [if_neg (by omega), hgi] at hun
    simp only at hun
    have hfi := getI_fine (b := b) (at_ := at1)
    rw [hgi] at hfi
    simp only at hfi
    clear HR hgi
    by_cases c1 : e1 = 0
    case neg =>
      have q1 : (e1 != 0) = true := by simpa using c1
      rw [if_pos c1] at hun
      clear hfi
      go_wp2_with fail
      refine C1.out.mono ?_
      rintro z w' ⟨rfl, rfl⟩
      go_wp2
      go_ret2
      exact ⟨HW.out, .inl ⟨hun.symm, rfl⟩⟩
    subst c1
    rw [if_neg (by simp)] at hun
    obtain ⟨i1, i2, i3⟩ := hfi rfl
    clear hfi
    have hp1 : in64 p1 := ⟨by omega, by omega⟩
    obtain ⟨⟨run, p2, e2⟩, hgu⟩ : ∃ y, getU b p1 = y := ⟨_, rfl⟩
    have C2 := Lib.hid (GetUint_ok (HV.out.nw HW.out) p1 hp1 hgu)
    rw [hgu] at hun
    simp only at hun
    have hfu := getU_fine (b := b) (at_ := p1)
    rw [hgu] at hfu
    simp only at hfu
    clear hgu
    have ret0 : R = none → ColP W g o N cap set es R (.returned (.tuple #[.int .i64 0, .bool false])) wr := fun h => ⟨HW.out, .inl ⟨h, rfl⟩⟩
    have RET := Lib.hid ret0
    clear ret0
    by_cases c2 : e2 = 0
    case neg =>
      have q1 : (e2 != 0) = true := by simpa using c2
      rw [dif_pos (.inl c2)] at hun
      clear hfu
      go_wp2_with fail
      refine C1.out.mono ?_
      rintro z w' ⟨rfl, rfl⟩
      go_wp2_with fail
      refine C2.out.mono ?_
      rintro z w' ⟨rfl, rfl⟩
      go_wp2
      go_ret2
      exact RET.out hun.symm
    subst c2
    obtain ⟨j1, j2, j3, j4⟩ := hfu rfl
    by_cases c3 : run < 1
    case pos =>
      rw [dif_pos (.inr (.inl c3))] at hun
      go_wp2_with fail
      refine C1.out.mono ?_
      rintro z w' ⟨rfl, rfl⟩
      go_wp2_with fail
      refine C2.out.mono ?_
      rintro z w' ⟨rfl, rfl⟩
      go_wp2
      go_ret2
      exact RET.out hun.symm
    have hwr : IntKind.u64.wrap ((N : Int) - (k : Int)) = (N : Int) - (k : Int) := IntWalk.u64_in _ (by omega)
    by_cases c4 : N - k < run
    case pos =>
      rw [dif_pos (.inr (.inr (.inl c4)))] at hun
      have q2 : decide ((N : Int) - (k : Int) < (run : Int)) = true := by simp; omega
      go_wp2_with fail
      refine C1.out.mono ?_
      rintro z w' ⟨rfl, rfl⟩
      go_wp2_with fail
      refine C2.out.mono ?_
      rintro z w' ⟨rfl, rfl⟩
      go_wp2
      go_ret2
      exact RET.out hun.symm
    have q2 : decide ((N : Int) - (k : Int) < (run : Int)) = false := by simp; omega
    by_cases c5 : decide (k = 0) = false ∧ x = l0
    case pos =>
      rw [dif_pos (.inr (.inr (.inr c5)))] at hun
      obtain ⟨c6, rfl⟩ := c5
      have hk0 : 0 < k := by have := of_decide_eq_false c6; omega
      have q3 : decide ((0 : Int) < (k : Int)) = true := by simp; omega
      go_wp2_with fail
      refine C1.out.mono ?_
      rintro z w' ⟨rfl, rfl⟩
      go_wp2_with fail
      refine C2.out.mono ?_
      rintro z w' ⟨rfl, rfl⟩
      go_wp2
      go_ret2
      exact RET.out hun.symm
    rw [dif_neg (by
      rintro (h | h | h | h)
      · exact h rfl
      · exact c3 h
      · exact c4 h
      · exact c5 h)] at hun
    clear RET
    have HUN := Lib.hid hun
    clear hun
    have c5' : k = 0 ∨ 0 < k ∧ x ≠ l0 := by
      rcases Nat.eq_zero_or_pos k with h | h
      · exact .inl h
      · exact .inr ⟨h, fun hx => c5 ⟨by simp; omega, hx⟩⟩
    clear c5
    go_wp2_with fail
    refine C1.out.mono ?_
    rintro z w' ⟨rfl, rfl⟩
    go_wp2_with fail
    refine C2.out.mono ?_
    rintro z w' ⟨rfl, rfl⟩
    clear C1 C2
    go_upto_region 8 with fail
    go_cut [61] (fun t wx => t = .bool false ∧ wx = wr)
    case first =>
      rcases c5' with h | ⟨h, hx⟩
      · subst h
        go_wp2_with fail
        go_meet
        case rel => exact ⟨by simp; omega, rfl⟩
      · have q3 : decide ((0 : Int) < (k : Int)) = true := by simp; omega
        have q4 : (x == l0) = false := by simpa using hx
        go_wp2_with fail
        go_meet
        case rel => exact ⟨by simp; omega, rfl⟩
    case rest =>
      obtain ⟨rfl, rfl⟩ := hcut
      clear q2 hwr c5'
      have hrun : k + run ≤ N := by omega
      go_wp2
      go_loopw [10, 12, 65] (fun nv iv kv wq => ∃ j : Nat, j ≤ run ∧ kv = .int .u64 j ∧ nv = .int .i64 (lastD n0 (sums n0 (List.replicate j x))) ∧ iv = .int .i64 (k + j : Nat) ∧ (sums n0 (List.replicate j x)).all ok = true ∧
        Vec 5 wq (.slice (some ⟨g, o, none⟩) N cap) N ((halfE set es (acc ++ sums n0 (List.replicate j x))).flatMap evV) ∧ Nw W wq) (fun _ _ kv _ => run - (intOf kv).toNat)
      case atStart => exact ⟨0, Nat.zero_le _, rfl, by simp [sums, lastD], by simp, by simp [sums], by simpa [sums] using HS.out, HW.out⟩
      case round =>
        obtain ⟨j, hj, rfl, rfl, rfl, hall, hs2, hw2⟩ := hrel
        clear HS HW
        have HS := Lib.hid hs2
        have HW := Lib.hid hw2
        have HALL := Lib.hid hall
        clear hs2 hw2 hall
        by_cases hjr : j < run
        case neg =>
          obtain rfl : j = run := by omega
          have hr := HUN.out
          rw [if_neg (by rw [HALL.out]; simp)] at hr
          have hal : (acc ++ sums n0 (List.replicate j x)).length = k + j := by rw [List.length_append, HK.out, sums_len, List.length_replicate]
          go_wp2
          go_roundw
          case rel =>
            refine ⟨p2, lastD n0 (sums n0 (List.replicate j x)), x, acc ++ sums n0 (List.replicate j x), rfl, rfl, rfl, by rw [hal], by omega, ⟨by omega, by omega⟩, ?_, HS.out, HW.out⟩
            rw [hal, show N - (k + j) = N - k - j by omega, show decide (k + j = 0) = false by simp; omega]
            exact hr
          case measure => simp [intOf]; omega
        obtain ⟨A, hA⟩ : ∃ A, acc ++ sums n0 (List.replicate j x) = A := ⟨_, rfl⟩
        obtain ⟨q, hq⟩ : ∃ q, k + j = q := ⟨_, rfl⟩
        have hlen : A.length = q := by rw [← hA, ← hq, List.length_append, HK.out, sums_len, List.length_replicate]
        rw [hA] at HS
        rw [hq]
        obtain ⟨v, hv⟩ : ∃ v, w64 (lastD n0 (sums n0 (List.replicate j x)) + x) = v := ⟨_, rfl⟩
        have hwv : IntKind.i64.wrap (lastD n0 (sums n0 (List.replicate j x)) + x) = v := by rw [IntKind.wrap_i64]; exact hv
        have hsn : sums n0 (List.replicate (j + 1) x) = sums n0 (List.replicate j x) ++ [v] := by rw [replicate_sums, hv]
        have hA2 : acc ++ sums n0 (List.replicate (j + 1) x) = A ++ [v] := by rw [hsn, ← List.append_assoc, hA]
        have hlast : lastD n0 (sums n0 (List.replicate (j + 1) x)) = v := by rw [hsn, lastD_snoc]
        obtain ⟨nn, hnn⟩ : ∃ y, lastD n0 (sums n0 (List.replicate j x)) = y := ⟨_, rfl⟩
        rw [hnn] at hwv
        rw [hnn]
        have hq2 : q < N := by omega
        obtain ⟨hl, hset⟩ := halfE_snoc set es A v (by rw [hlen, HN.out]; omega)
        obtain ⟨H, hH⟩ : ∃ H, halfE set es A = H := ⟨_, rfl⟩
        have hHl : H.length = N := by rw [← hH, halfE_len _ _ _ (by rw [hlen, HN.out]; omega), HN.out]
        simp only [hH, hlen] at hl hset
        rw [hH] at HS
        have hcl := HS.out.2.resolve_left (fun h => by cases h.1)
        obtain ⟨g', o', cap', he, -, -, hgl, hsome, hfroz, -⟩ := hcl
        obtain ⟨⟨rfl, rfl⟩, rfl⟩ : (g = g' ∧ o = o') ∧ cap = cap' := by simpa using he
        have hcap : N ≤ cap := by obtain ⟨_, _, he2, h1, -⟩ := HS.out.len; cases he2; exact h1
        have hqc : q * 5 + c < cap * 5 := by omega
        obtain ⟨u, hu⟩ := Option.isSome_iff_exists.1 (hsome (q * 5 + c) hqc)
        have hfz := hfroz (q * 5 + c) hqc
        rw [← Nat.add_assoc] at hu hfz
        have CP := Lib.hid (HP.out.call wr g (o + q * 5) u v hgl hu hfz)
        have hjc : q * 5 + c < (H.flatMap evV).length := by rw [evs_len, hHl]; omega
        have hvec := HS.out.setAt hjc (val v)
        rw [set_flat (set (H[q]'hl) v) H q hl hc5 (HP.out.vals _ _), hset, ← Nat.add_assoc] at hvec
        have HVEC := Lib.hid hvec
        have NW2 : Hid (Nw W (wr.setCell ⟨g, o + q * 5 + c, none⟩ (val v))) := Lib.hid (Only.setCell HW.out (fun h => by simp only at h; omega) _)
        clear hl hset hsome hfroz he hvec hu hfz hjc hcap hqc hnn
        by_cases hok : ok v = true
        case neg =>
          have hok' : ok v = false := by simpa using hok
          rw [hok'] at CP
          have hr := HUN.out
          rw [if_pos (by
            have h1 : run = (j + 1) + (run - (j + 1)) := by omega
            rw [h1, ← List.replicate_append_replicate, sums_append, List.all_append, hsn, List.all_append]
            simp [hok'])] at hr
          go_wp2_with (refine CP.out.mono ?_)
          rintro z w' ⟨rfl, rfl⟩
          go_wp2
          go_ret2
          exact ⟨NW2.out, .inl ⟨hr.symm, rfl⟩⟩
        rw [hok] at CP
        go_wp2_with (refine CP.out.mono ?_)
        rintro z w' ⟨rfl, rfl⟩
        go_wp2
        go_roundw
        case rel => exact ⟨j + 1, by omega, by go_num, by rw [hlast], by rw [← hq]; go_num, by rw [hsn, List.all_append, HALL.out]; simp [hok], by rw [hA2]; exact HVEC.out, NW2.out⟩
        case measure => simp [intOf]; omega
end Go.Proofs.YtjapijndljknnaaGreatDoor
