/-
  Texts merged by a program of this claim's: LogD, LogE, LogF, LogG, LogH, Fork.
-/
import Derived.Test.YtkbenkldfehhlaaGreatDoorM13
import Derived.Test.YtkbenkldfehhlaaGreatDoorShelfNS
import Derived.Lib.AppendIntMem
import Derived.Test.YtkbenkldfehhlaaGreatDoorM9
namespace Go.Proofs.YtkbenkldfehhlaaGreatDoor
open Go Go.RowKit Go.Sort
set_option maxRecDepth 100000
set_option maxHeartbeats 1600000

theorem two_eta (r : Dsk × Int) : r = (r.1, r.2) := rfl
def fnV (f : Nat × Array Value) : Value := .func (.func f.1) #[] f.2
theorem steps_ok {w : World} (fs : List (Nat × Array Value)) (S : Nat → World → Prop) (T : Int → World → Prop) (g o cap : Nat) (hlen : fs.length ≤ 100)
    (hen : ∀ i (h : i < fs.length), Enters Tryz.prog fs[i].1) (hcell : ∀ i W, S i W → ∀ j (h : j < fs.length), W.cell? ⟨g, o + j, none⟩ = some (fnV fs[j]))
    (hdo : ∀ i (h : i < fs.length) W, S i W → Calls Tryz.prog fs[i].1 fs[i].2 W fun e W' => ∃ x, e = .returned (.int .i64 x) ∧ ((x = 0 ∧ S (i + 1) W') ∨ (x ≠ 0 ∧ T x W')))
    (h0 : S 0 w) : Calls Tryz.prog 111 #[.slice (some ⟨g, o, none⟩) fs.length cap] w fun e W' => ∃ x, e = .returned (.int .i64 x) ∧ ((x = 0 ∧ S fs.length W') ∨ (x ≠ 0 ∧ T x W')) := by
  unfold Enters at hen
  have HEN := Lib.hid hen
  have HC := Lib.hid hcell
  have HD := Lib.hid hdo
  clear hen hcell hdo
  obtain ⟨n, hn⟩ : ∃ n, fs.length = n := ⟨_, rfl⟩
  have HN := Lib.hid hn
  rw [hn] at hlen ⊢
  clear hn
  go_enter Tryz.func111, Tryz.ntmps111
  go_wp2
  go_loopw [8] (fun i wr => ∃ k : Nat, k ≤ n ∧ i = .int .i64 k ∧ S k wr) (fun i _ => n - (intOf i).toNat)
  case atStart => exact ⟨0, by omega, rfl, h0⟩
  case round =>
    obtain ⟨k, hk, rfl, hs⟩ := hrel
    by_cases hlt : k < n
    · have hkl : k < fs.length := by rw [HN.out]; exact hlt
      have c0 := HC.out k wr hs k hkl
      have hgl : g < wr.heap.size := World.block_lt_of_cell? _ _ c0
      have en := HEN.out k hkl
      have cd := Lib.hid (HD.out k hkl wr hs)
      generalize fs[k] = F at c0 en cd
      obtain ⟨f, c⟩ := F
      unfold fnV at c0
      simp only at c0 en cd
      clear hs
      go_wp2_with (refine cd.out.mono ?_)
      rintro e w1 ⟨x, rfl, ⟨rfl, hs1⟩ | ⟨hx, ht⟩⟩
      · have S1 := Lib.hid hs1
        clear hs1
        go_wp2
        go_roundw
        case rel => exact ⟨k + 1, by omega, by go_num, S1.out⟩
        case measure => simp [intOf]; omega
      · have hb : (x != 0) = true := by simpa using hx
        go_wp2
        go_ret
        exact ⟨x, rfl, .inr ⟨hx, ht⟩⟩
    · obtain rfl : k = n := by omega
      go_wp2
      go_ret
      exact ⟨0, rfl, .inl ⟨rfl, hs⟩⟩

section
variable {X : Nat → Prop} {w0 w : World} {b : Nat} {d : Dsk}
theorem Install1_ok (h : HasX X w0 w b d) (p : Nat) (hp : w.cell? ⟨p, 0, none⟩ = some (.pointer (some ⟨b, 0, none⟩))) :
    Calls Tryz.prog 117 #[.pointer (some ⟨p, 0, none⟩)] w (DidX X w0 w b (d.gone nextS).1 (.int .i64 (d.gone nextS).2)) := by
  have H := Lib.hid (gone_ok h nextS)
  clear h
  generalize d.gone nextS = r0 at H ⊢
  go_enter Tryz.func117, Tryz.ntmps117
  go_wp2_with fail
  refine H.out.mono ?_
  rintro e w1 ⟨rfl, q1, q2⟩
  go_wp2
  go_ret
  exact ⟨rfl, q1, q2⟩
theorem Install2_ok (h : HasX X w0 w b d) (p q : Nat) (hp : w.cell? ⟨p, 0, none⟩ = some (.pointer (some ⟨b, 0, none⟩))) {src : Value} {l : List UInt8} (hq : w.cell? ⟨q, 0, none⟩ = some src) (hs : Bs w src l) (hX : ∀ g, src.ownBlock = some g → X g) (hl : l.length ≤ 1000000) :
    Calls Tryz.prog 118 #[.pointer (some ⟨p, 0, none⟩), .pointer (some ⟨q, 0, none⟩)] w (DidX X w0 w b (d.append nextS l).1 (.int .i64 (d.append nextS l).2)) := by
  have H := Lib.hid (h.append nextS l src hs (fun _ g hg => .inl (hX g hg)) (by decide) (by omega) (two_eta _))
  obtain ⟨xa, xc, rfl, -⟩ := hs.len
  clear h hs hX
  generalize d.append nextS l = r0 at H ⊢
  go_enter Tryz.func118, Tryz.ntmps118
  go_wp2_with fail
  refine H.out.mono ?_
  rintro e w1 ⟨rfl, q1, q2⟩
  go_wp2
  go_ret
  exact ⟨rfl, q1, q2⟩
theorem Install3_ok (h : HasX X w0 w b d) (p : Nat) (hp : w.cell? ⟨p, 0, none⟩ = some (.pointer (some ⟨b, 0, none⟩))) :
    Calls Tryz.prog 119 #[.pointer (some ⟨p, 0, none⟩)] w (DidX X w0 w b (d.sync nextS).1 (.int .i64 (d.sync nextS).2)) := by
  have H := Lib.hid (h.sync nextS (two_eta _))
  clear h
  generalize d.sync nextS = r0 at H ⊢
  go_enter Tryz.func119, Tryz.ntmps119
  go_wp2_with fail
  refine H.out.mono ?_
  rintro e w1 ⟨rfl, q1, q2⟩
  go_wp2
  go_ret
  exact ⟨rfl, q1, q2⟩
theorem Install4_ok (h : HasX X w0 w b d) (p : Nat) (hp : w.cell? ⟨p, 0, none⟩ = some (.pointer (some ⟨b, 0, none⟩))) :
    Calls Tryz.prog 120 #[.pointer (some ⟨p, 0, none⟩)] w (DidX X w0 w b (d.rename nextS manifestS).1 (.int .i64 (d.rename nextS manifestS).2)) := by
  have H := Lib.hid (h.rename nextS manifestS (by decide) (two_eta _))
  clear h
  generalize d.rename nextS manifestS = r0 at H ⊢
  go_enter Tryz.func120, Tryz.ntmps120
  go_wp2_with fail
  refine H.out.mono ?_
  rintro e w1 ⟨rfl, q1, q2⟩
  go_wp2
  go_ret
  exact ⟨rfl, q1, q2⟩
theorem begin1_ok (h : HasX X w0 w b d) (p q : Nat) (n : Str) (hp : w.cell? ⟨p, 0, none⟩ = some (.pointer (some ⟨b, 0, none⟩))) (hq : w.cell? ⟨q, 0, none⟩ = some (.string ⟨n.toArray⟩)) :
    Calls Tryz.prog 112 #[.pointer (some ⟨p, 0, none⟩), .pointer (some ⟨q, 0, none⟩)] w (DidX X w0 w b (d.gone n).1 (.int .i64 (d.gone n).2)) := by
  have H := Lib.hid (gone_ok h n)
  clear h
  generalize d.gone n = r0 at H ⊢
  go_enter Tryz.func112, Tryz.ntmps112
  go_wp2_with fail
  refine H.out.mono ?_
  rintro e w1 ⟨rfl, q1, q2⟩
  go_wp2
  go_ret
  exact ⟨rfl, q1, q2⟩
theorem begin2_ok (h : HasX X w0 w b d) (p q r : Nat) (n : Str) (hp : w.cell? ⟨p, 0, none⟩ = some (.pointer (some ⟨b, 0, none⟩))) (hq : w.cell? ⟨q, 0, none⟩ = some (.string ⟨n.toArray⟩)) (hn : n.length ≤ 9223372036854775807)
    {src : Value} {l : List UInt8} (hr : w.cell? ⟨r, 0, none⟩ = some src) (hs : Bs w src l) (hX : ∀ g, src.ownBlock = some g → X g) (hl : l.length ≤ 1000000) :
    Calls Tryz.prog 114 #[.pointer (some ⟨p, 0, none⟩), .pointer (some ⟨q, 0, none⟩), .pointer (some ⟨r, 0, none⟩)] w (DidX X w0 w b (d.append n l).1 (.int .i64 (d.append n l).2)) := by
  have H := Lib.hid (h.append n l src hs (fun _ g hg => .inl (hX g hg)) hn (by omega) (two_eta _))
  obtain ⟨xa, xc, rfl, -⟩ := hs.len
  clear h hs hX hn
  generalize d.append n l = r0 at H ⊢
  go_enter Tryz.func114, Tryz.ntmps114
  go_wp2_with fail
  refine H.out.mono ?_
  rintro e w1 ⟨rfl, q1, q2⟩
  go_wp2
  go_ret
  exact ⟨rfl, q1, q2⟩
theorem begin3_ok (h : HasX X w0 w b d) (p q : Nat) (n : Str) (hp : w.cell? ⟨p, 0, none⟩ = some (.pointer (some ⟨b, 0, none⟩))) (hq : w.cell? ⟨q, 0, none⟩ = some (.string ⟨n.toArray⟩)) :
    Calls Tryz.prog 115 #[.pointer (some ⟨p, 0, none⟩), .pointer (some ⟨q, 0, none⟩)] w (DidX X w0 w b (d.sync n).1 (.int .i64 (d.sync n).2)) := by
  have H := Lib.hid (h.sync n (two_eta _))
  clear h
  generalize d.sync n = r0 at H ⊢
  go_enter Tryz.func115, Tryz.ntmps115
  go_wp2_with fail
  refine H.out.mono ?_
  rintro e w1 ⟨rfl, q1, q2⟩
  go_wp2
  go_ret
  exact ⟨rfl, q1, q2⟩
end
end Go.Proofs.YtkbenkldfehhlaaGreatDoor

namespace Go.Proofs.YtkbenkldfehhlaaGreatDoor
open Go Go.RowKit Go.Sort
set_option maxRecDepth 100000
set_option maxHeartbeats 1600000

theorem fresh_1 {d : Dsk} {n : Str} {m : List UInt8} (h : (d.gone n).2 ≠ 0) : d.fresh n m = d.gone n := by
  unfold Dsk.fresh andThen
  rw [if_neg h, if_neg h]
theorem fresh_2 {d : Dsk} {n : Str} {m : List UInt8} (h : (d.gone n).2 = 0) (h2 : ((d.gone n).1.append n m).2 ≠ 0) : d.fresh n m = (d.gone n).1.append n m := by
  unfold Dsk.fresh andThen
  rw [if_pos h, if_neg h2]
theorem fresh_3 {d : Dsk} {n : Str} {m : List UInt8} (h : (d.gone n).2 = 0) (h2 : ((d.gone n).1.append n m).2 = 0) : d.fresh n m = ((d.gone n).1.append n m).1.sync n := by
  unfold Dsk.fresh andThen
  rw [if_pos h, if_pos h2]
theorem install_of {d : Dsk} {l : List Pc} (hr : rightL l = true) : d.install l = andThen (d.fresh nextS (manifestB l)) (·.rename nextS manifestS) := by
  unfold Dsk.install; rw [if_pos hr]
theorem install_err {d : Dsk} {l : List Pc} (hr : rightL l = true) (h : (d.fresh nextS (manifestB l)).2 ≠ 0) : d.install l = d.fresh nextS (manifestB l) := by
  rw [install_of hr]; unfold andThen; rw [if_neg h]
theorem install_end {d : Dsk} {l : List Pc} (hr : rightL l = true) (h : (d.fresh nextS (manifestB l)).2 = 0) : d.install l = (d.fresh nextS (manifestB l)).1.rename nextS manifestS := by
  rw [install_of hr]; unfold andThen; rw [if_pos h]

section
variable {X : Nat → Prop} {w0 w : World} {b : Nat} {d : Dsk}
def Chain (Y : Nat → Prop) (w0 w4 : World) (b : Nat) (d : Dsk) (n : Str) (m : List UInt8) (i : Nat) (W : World) : Prop := Kept Y w4 W ∧
  match i with
  | 0 => HasX Y w0 W b d
  | 1 => (d.gone n).2 = 0 ∧ HasX Y w0 W b (d.gone n).1
  | 2 => (d.gone n).2 = 0 ∧ ((d.gone n).1.append n m).2 = 0 ∧ HasX Y w0 W b ((d.gone n).1.append n m).1
  | 3 => (d.fresh n m).2 = 0 ∧ HasX Y w0 W b (d.fresh n m).1
  | _ => (d.fresh n m).2 = 0 ∧ ((d.fresh n m).1.rename nextS manifestS).2 = 0 ∧ HasX Y w0 W b ((d.fresh n m).1.rename nextS manifestS).1
theorem zero_or {Y : Nat → Prop} {w0 w W : World} {b : Nat} {d' : Dsk} {x : Int} {e : Ending} {A : Prop} {B : Int → Prop} (h : DidX Y w0 w b d' (.int .i64 x) e W) (hA : x = 0 → HasX Y w0 W b d' → Kept Y w W → A) (hB : x ≠ 0 → HasX Y w0 W b d' → Kept Y w W → B x) :
    ∃ x, e = .returned (.int .i64 x) ∧ ((x = 0 ∧ A) ∨ (x ≠ 0 ∧ B x)) := by
  obtain ⟨rfl, h1, h2⟩ := h
  by_cases hx : x = 0
  · exact ⟨x, rfl, .inl ⟨hx, hA hx h1 h2⟩⟩
  · exact ⟨x, rfl, .inr ⟨hx, hB hx h1 h2⟩⟩

theorem Install_no (h : HasX X w0 w b d) {v : Value} {l : List Pc} (hv : Pcs w v l) (hr : rightL l = false) :
    Calls Tryz.prog 68 #[.pointer (some ⟨b, 0, none⟩), v] w (DidX X w0 w b (d.install l).1 (.int .i64 (d.install l).2)) := by
  have E : Hid (d.install l = (d, 14)) := Lib.hid (by unfold Dsk.install; rw [hr]; rfl)
  rw [E.out]
  have hn1 := (Nw.refl w).alloc (.cells #[.pointer (some ⟨b, 0, none⟩)] 25 (0, 0))
  have HM := Lib.hid (Manifest_no (hv.nw hn1) hr)
  obtain ⟨a, cap, rfl, -⟩ := hv.elem
  have H := Lib.hid h
  have HN1 := Lib.hid hn1
  clear h hv hn1 E
  go_enter Tryz.func68, Tryz.ntmps68
  go_wp2_with fail
  refine HM.out.mono ?_
  rintro e w2 ⟨rfl, n2⟩
  have N2 := Lib.hid (HN1.out.trans n2)
  clear n2
  go_wp2
  go_ret
  exact ⟨rfl, H.out.nw (N2.out.alloc _), (N2.out.alloc _).kept⟩

theorem Install_yes (h : HasX X w0 w b d) {v : Value} {l : List Pc} (hv : Pcs w v l) (hr : rightL l = true) :
    Calls Tryz.prog 68 #[.pointer (some ⟨b, 0, none⟩), v] w (DidX X w0 w b (d.install l).1 (.int .i64 (d.install l).2)) := by
  have hn1 := (Nw.refl w).alloc (.cells #[.pointer (some ⟨b, 0, none⟩)] 25 (0, 0))
  have hb1 := heap_alloc_new w (.cells #[.pointer (some ⟨b, 0, none⟩)] 25 (0, 0))
  have HM := Lib.hid (Manifest_ok (hv.nw hn1) hr)
  have HML := Lib.hid (manifestB_len hr)
  obtain ⟨a, cap, rfl, -⟩ := hv.elem
  have H := Lib.hid h
  have HN1 := Lib.hid hn1
  have HB1 := Lib.hid hb1
  have HR := Lib.hid hr
  obtain ⟨r, hres⟩ : ∃ r, d.install l = r := ⟨_, rfl⟩
  have E := Lib.hid hres
  rw [hres]
  obtain ⟨m, hm⟩ : ∃ m, manifestB l = m := ⟨_, rfl⟩
  have HMM := Lib.hid hm
  rw [hm] at HM HML
  clear h hv hn1 hb1 hr hres hm
  go_enter Tryz.func68, Tryz.ntmps68
  go_wp2_with fail
  refine HM.out.mono ?_
  rintro e w2 ⟨v2, rfl, q1, q2, q3⟩
  obtain ⟨xa, xc, rfl, -⟩ := q1.len
  have Q := Lib.hid (And.intro q1 (And.intro (HN1.out.trans q2) (fun g hg => Nat.le_trans HN1.out.size (q3 g hg))))
  have B2 := Lib.hid (q2.at_ HB1.out)
  clear q1 q2 q3 HM
  go_wp2_with fail
  have hw2 : w.heap.size < w2.heap.size := lt_of_block B2.out
  have n4 := ((Nw.refl w2).alloc (.cells #[.slice xa m.length xc] 79 (0, 0))).alloc (.cells #[.func (.func 117) #[] #[.pointer (some ⟨w.heap.size, 0, none⟩)], .func (.func 118) #[] #[.pointer (some ⟨w.heap.size, 0, none⟩), .pointer (some ⟨w2.heap.size, 0, none⟩)], .func (.func 119) #[] #[.pointer (some ⟨w.heap.size, 0, none⟩)], .func (.func 120) #[] #[.pointer (some ⟨w.heap.size, 0, none⟩)]] 69 (0, 0))
  have b5 : ((w2.alloc (.cells #[.slice xa m.length xc] 79 (0, 0))).alloc (.cells #[.func (.func 117) #[] #[.pointer (some ⟨w.heap.size, 0, none⟩)], .func (.func 118) #[] #[.pointer (some ⟨w.heap.size, 0, none⟩), .pointer (some ⟨w2.heap.size, 0, none⟩)], .func (.func 119) #[] #[.pointer (some ⟨w.heap.size, 0, none⟩)], .func (.func 120) #[] #[.pointer (some ⟨w.heap.size, 0, none⟩)]] 69 (0, 0))).heap[w2.heap.size]? = some (.cells #[.slice xa m.length xc] 79 (0, 0)) :=
    (heap_alloc_old _ _ (by simp)).trans (heap_alloc_new w2 _)
  have b6 := heap_alloc_new (w2.alloc (.cells #[.slice xa m.length xc] 79 (0, 0))) (.cells #[.func (.func 117) #[] #[.pointer (some ⟨w.heap.size, 0, none⟩)], .func (.func 118) #[] #[.pointer (some ⟨w.heap.size, 0, none⟩), .pointer (some ⟨w2.heap.size, 0, none⟩)], .func (.func 119) #[] #[.pointer (some ⟨w.heap.size, 0, none⟩)], .func (.func 120) #[] #[.pointer (some ⟨w.heap.size, 0, none⟩)]] 69 (0, 0))
  rw [World.size_alloc] at b6
  generalize (w2.alloc (.cells #[.slice xa m.length xc] 79 (0, 0))).alloc (.cells #[.func (.func 117) #[] #[.pointer (some ⟨w.heap.size, 0, none⟩)], .func (.func 118) #[] #[.pointer (some ⟨w.heap.size, 0, none⟩), .pointer (some ⟨w2.heap.size, 0, none⟩)], .func (.func 119) #[] #[.pointer (some ⟨w.heap.size, 0, none⟩)], .func (.func 120) #[] #[.pointer (some ⟨w.heap.size, 0, none⟩)]] 69 (0, 0)) = w4 at n4 b5 b6 ⊢
  have b4 := n4.at_ B2.out
  have hn4 : Nw w w4 := Q.out.2.1.trans n4
  have hs4 : w2.heap.size + 1 < w4.heap.size := lt_of_block b6
  obtain ⟨Y, hY⟩ : ∃ Y : Nat → Prop, Y = fun k => X k ∨ w.heap.size ≤ k ∧ k < w4.heap.size := ⟨_, rfl⟩
  have y1 : Y w.heap.size := by rw [hY]; exact .inr ⟨Nat.le_refl _, by omega⟩
  have y2 : Y w2.heap.size := by rw [hY]; exact .inr ⟨by omega, by omega⟩
  have y3 : Y (w2.heap.size + 1) := by rw [hY]; exact .inr ⟨by omega, by omega⟩
  have y4 : ∀ g, (Value.slice xa m.length xc).ownBlock = some g → Y g := fun g hg => by
    have := Q.out.1.lt g hg
    rw [hY]; exact .inr ⟨Q.out.2.2 g hg, by omega⟩
  have hx4 : HasX Y w0 w4 b d := H.out.nwY hn4 (fun k hk => by rw [hY] at hk; exact hk)
  have hXY : ∀ k, X k → Y k := fun k hk => by rw [hY]; exact .inl hk
  have cA : ∀ W, Kept Y w4 W → W.cell? ⟨w.heap.size, 0, none⟩ = some (.pointer (some ⟨b, 0, none⟩)) := fun W hk => by
    have := (hk.2 _ y1 (by omega)).trans b4
    simp [World.cell?, this]
  have cB : ∀ W, Kept Y w4 W → W.cell? ⟨w2.heap.size, 0, none⟩ = some (.slice xa m.length xc) := fun W hk => by
    have := (hk.2 _ y2 (by omega)).trans b5
    simp [World.cell?, this]
  have cR : ∀ W, Kept Y w4 W → W.heap[w2.heap.size + 1]? = _ := fun W hk => (hk.2 _ y3 hs4).trans b6
  have hbs : ∀ W, Kept Y w4 W → Bs W (.slice xa m.length xc) m := fun W hk => ((Q.out.1.nw n4).rd).kept hk (fun _ g hg => y4 g hg)
  have hrl : rightL l = true := HR.out
  have hmm : manifestB l = m := HMM.out
  have hST := steps_ok (w := w4) [(117, #[.pointer (some ⟨w.heap.size, 0, none⟩)]), (118, #[.pointer (some ⟨w.heap.size, 0, none⟩), .pointer (some ⟨w2.heap.size, 0, none⟩)]), (119, #[.pointer (some ⟨w.heap.size, 0, none⟩)]), (120, #[.pointer (some ⟨w.heap.size, 0, none⟩)])]
    (Chain Y w0 w4 b d nextS m) (fun x W => Kept Y w4 W ∧ HasX Y w0 W b r.1 ∧ x = r.2) (w2.heap.size + 1) 0 4 (by simp)
    (fun i hi => by
      have : i = 0 ∨ i = 1 ∨ i = 2 ∨ i = 3 := by simp at hi; omega
      rcases this with rfl | rfl | rfl | rfl
      · exact enters_of Tryz.func117 (by kernel_rfl) (by kernel_rfl)
      · exact enters_of Tryz.func118 (by kernel_rfl) (by kernel_rfl)
      · exact enters_of Tryz.func119 (by kernel_rfl) (by kernel_rfl)
      · exact enters_of Tryz.func120 (by kernel_rfl) (by kernel_rfl))
    (fun i W hS j hj => by
      have hb := cR W hS.1
      have : j = 0 ∨ j = 1 ∨ j = 2 ∨ j = 3 := by simp at hj; omega
      rcases this with rfl | rfl | rfl | rfl <;> simp [World.cell?, hb, fnV])
    (fun i hi W hS => by
      have hk := hS.1
      have : i = 0 ∨ i = 1 ∨ i = 2 ∨ i = 3 := by simp at hi; omega
      rcases this with rfl | rfl | rfl | rfl
      · refine (Install1_ok hS.2 w.heap.size (cA W hk)).mono fun e W' hd => zero_or hd (fun z hx hkk => ⟨hk.trans hkk, z, hx⟩) (fun z hx hkk => ⟨hk.trans hkk, ?_⟩)
        rw [← E.out, install_err hrl (by rw [fresh_1 z]; exact z), fresh_1 z]
        exact ⟨hx, rfl⟩
      · obtain ⟨z1, hx1⟩ := hS.2
        refine (Install2_ok hx1 w.heap.size w2.heap.size (cA W hk) (cB W hk) (hbs W hk) y4 (by have := HML.out; omega)).mono fun e W' hd => zero_or hd (fun z hx hkk => ⟨hk.trans hkk, z1, z, hx⟩) (fun z hx hkk => ⟨hk.trans hkk, ?_⟩)
        rw [← E.out, install_err hrl (by rw [hmm, fresh_2 z1 z]; exact z), hmm, fresh_2 z1 z]
        exact ⟨hx, rfl⟩
      · obtain ⟨z1, z2, hx1⟩ := hS.2
        refine (Install3_ok hx1 w.heap.size (cA W hk)).mono fun e W' hd => zero_or hd (fun z hx hkk => ⟨hk.trans hkk, by rw [fresh_3 z1 z2]; exact ⟨z, hx⟩⟩) (fun z hx hkk => ⟨hk.trans hkk, ?_⟩)
        rw [← E.out, install_err hrl (by rw [hmm, fresh_3 z1 z2]; exact z), hmm, fresh_3 z1 z2]
        exact ⟨hx, rfl⟩
      · obtain ⟨z1, hx1⟩ := hS.2
        refine (Install4_ok hx1 w.heap.size (cA W hk)).mono fun e W' hd => zero_or hd (fun z hx hkk => ⟨hk.trans hkk, z1, z, hx⟩) (fun z hx hkk => ⟨hk.trans hkk, ?_⟩)
        rw [← E.out, install_end hrl (by rw [hmm]; exact z1), hmm]
        exact ⟨hx, rfl⟩)
    ⟨Kept.refl w4, hx4⟩
  have hend : ∀ x W, ((x = 0 ∧ Chain Y w0 w4 b d nextS m 4 W) ∨ (x ≠ 0 ∧ (Kept Y w4 W ∧ HasX Y w0 W b r.1 ∧ x = r.2))) → x = r.2 ∧ HasX X w0 W b r.1 ∧ Kept X w W := fun x W hc => by
    rcases hc with ⟨rfl, hk, z1, z2, hx⟩ | ⟨hx, hk, hh, rfl⟩
    · have e : d.install l = (d.fresh nextS m).1.rename nextS manifestS := by rw [install_end hrl (by rw [hmm]; exact z1), hmm]
      rw [E.out] at e
      rw [e]
      exact ⟨z2.symm, hx.weak hXY, hn4.kept.trans (hk.weak hXY)⟩
    · exact ⟨rfl, hh.weak hXY, hn4.kept.trans (hk.weak hXY)⟩
  have HEND := Lib.hid hend
  have HST := Lib.hid hST
  clear hend hST cA cB cR hbs hx4 hXY y1 y2 y3 y4 hY b4 b5 b6 n4 hrl hmm hs4 hw2
  refine HST.out.mono ?_
  rintro e w5 ⟨x, rfl, hc⟩
  obtain ⟨e1, e2, e3⟩ := HEND.out x w5 hc
  have Z := Lib.hid (And.intro e2 e3)
  clear hc e2 e3 HST HEND
  subst e1
  go_wp2
  go_ret
  exact ⟨rfl, Z.out.1, Z.out.2⟩
theorem Install_ok (h : HasX X w0 w b d) {v : Value} {l : List Pc} (hv : Pcs w v l) :
    Calls Tryz.prog 68 #[.pointer (some ⟨b, 0, none⟩), v] w (DidX X w0 w b (d.install l).1 (.int .i64 (d.install l).2)) := by
  cases hr : rightL l
  · exact Install_no h hv hr
  · exact Install_yes h hv hr
end
end Go.Proofs.YtkbenkldfehhlaaGreatDoor

namespace Go.Proofs.YtkbenkldfehhlaaGreatDoor
open Go Go.RowKit Go.Sort
set_option maxRecDepth 100000
set_option maxHeartbeats 1600000
def Tab (w : World) : Prop := Lib.TabIs Tryz.prog w "internal/strconv.uint64pow10" .u64 Lib.pow10Tab
theorem Tab.nw {w w' : World} (h : Tab w) (hw : Nw w w') : Tab w' := Lib.tabBelow_of_tabIs h w' hw.below
theorem Itoa_ok (n : Nat) (hn : n ≤ 9223372036854775807) {w : World} (ht : Tab w) :
    Calls Tryz.prog 109 #[.int .i64 n] w fun e w' => e = .returned (.string ⟨(Lib.decDigits n).toArray⟩) ∧ Nw w w' := by
  refine (Tryz.strconv_Itoa n (by omega) (by omega) w ht).mono ?_
  rintro e w' ⟨rfl, k, os, rfl⟩
  exact ⟨by rw [Lib.itoa_nonneg], Nw.of_below (Lib.below_grow w.heap.size w (Nat.le_refl _) k os)⟩
theorem seg_cat (n : Nat) : (⟨#[115]⟩ ++ ⟨(Lib.decDigits n).toArray⟩ : ByteArray) = ⟨(segName n).toArray⟩ := ByteArray.mk_append_mk [115] (Lib.decDigits n)
section
variable {X : Nat → Prop} {w0 w : World} {b : Nat} {d : Dsk}
def Begun (X : Nat → Prop) (w0 w : World) (b : Nat) (d : Dsk) (n : Nat) (e : Ending) (w' : World) : Prop :=
  e = .returned (.tuple #[.string ⟨(segName n).toArray⟩, .int .i64 (headB n).length, .int .i64 (d.begun n).2]) ∧ HasX X w0 w' b (d.begun n).1 ∧ Kept X w w'
theorem begin_ok (h : HasX X w0 w b d) (n : Nat) (hn : n ≤ 4611686018427387904) (ht : Tab w) :
    Calls Tryz.prog 67 #[.pointer (some ⟨b, 0, none⟩), .int .i64 n] w (Begun X w0 w b d n) := by
  have hn1 := (Nw.refl w).alloc (.cells #[.pointer (some ⟨b, 0, none⟩)] 25 (0, 0))
  have hb1 := heap_alloc_new w (.cells #[.pointer (some ⟨b, 0, none⟩)] 25 (0, 0))
  have HI := Lib.hid (Itoa_ok n (by omega) (ht.nw hn1))
  have H := Lib.hid h
  have HN1 := Lib.hid hn1
  have HB1 := Lib.hid hb1
  clear h hn1 hb1
  go_enter Tryz.func67, Tryz.ntmps67
  have hcat := seg_cat n
  have hdl : (Lib.decDigits n).length ≤ 20 := by rw [Lib.decDigits_length]; exact Lib.nDigits_le20 n (by omega)
  go_wp2_with fail
  refine HI.out.mono ?_
  rintro e w2 ⟨rfl, n2⟩
  have N2 := Lib.hid (HN1.out.trans n2)
  have B2 := Lib.hid (n2.at_ HB1.out)
  have HSL : Hid ((segName n).length ≤ 9223372036854775807) := Lib.hid (by
    have := Lib.decDigits_length n
    have := Lib.nDigits_le20 n (by omega)
    simp only [segName, List.length_cons]; omega)
  clear n2 HI
  have HBG : Hid (∀ r : Dsk × Int, d.begun n = r → True) := Lib.hid (fun _ _ => trivial)
  obtain ⟨r, hres⟩ : ∃ r, d.begun n = r := ⟨_, rfl⟩
  have E := Lib.hid hres
  clear hres HBG
  obtain ⟨sn, hsn⟩ : ∃ sn, segName n = sn := ⟨_, rfl⟩
  rw [hsn] at hcat HSL
  have ES := Lib.hid hsn
  clear hsn
  have HCAT := Lib.hid hcat
  clear hcat
  go_wp2_with fail
  simp only [HCAT.out]
  refine (Head_ok n hn _).mono ?_
  rintro e w3 ⟨v3, rfl, q1, q2, q3⟩
  have HHL : Hid ((headB n).length ≤ 18) := Lib.hid (headB_len (by omega))
  obtain ⟨m, hm⟩ : ∃ m, headB n = m := ⟨_, rfl⟩
  rw [hm] at q1 HHL
  have EM := Lib.hid hm
  clear hm hdl
  obtain ⟨xa, xc, rfl, -⟩ := q1.len
  have n23 : Nw w2 w3 := ((Nw.refl w2).alloc (.cells #[.string ⟨sn.toArray⟩] 9 (0, 0))).trans q2
  have B7 := Lib.hid (q2.at_ (heap_alloc_new w2 (.cells #[.string ⟨sn.toArray⟩] 9 (0, 0))))
  have Q := Lib.hid (And.intro q1 (And.intro (N2.out.trans n23) (fun g hg => by
    have h1 := q3 g hg
    have h2 := N2.out.size
    simp only [World.size_alloc] at h1
    show w.heap.size ≤ g
    omega)))
  have B3 := Lib.hid (n23.at_ B2.out)
  clear q1 q2 q3 n23
  go_wp2_with fail
  have hw3 : w2.heap.size < w3.heap.size := lt_of_block B7.out
  have hw2 : w.heap.size < w2.heap.size := lt_of_block B2.out
  have n4 := ((Nw.refl w3).alloc (.cells #[.slice xa m.length xc] 79 (0, 0))).alloc (.cells #[.func (.func 112) #[] #[.pointer (some ⟨w.heap.size, 0, none⟩), .pointer (some ⟨w2.heap.size, 0, none⟩)], .func (.func 114) #[] #[.pointer (some ⟨w.heap.size, 0, none⟩), .pointer (some ⟨w2.heap.size, 0, none⟩), .pointer (some ⟨w3.heap.size, 0, none⟩)], .func (.func 115) #[] #[.pointer (some ⟨w.heap.size, 0, none⟩), .pointer (some ⟨w2.heap.size, 0, none⟩)]] 69 (0, 0))
  have b5 : ((w3.alloc (.cells #[.slice xa m.length xc] 79 (0, 0))).alloc (.cells #[.func (.func 112) #[] #[.pointer (some ⟨w.heap.size, 0, none⟩), .pointer (some ⟨w2.heap.size, 0, none⟩)], .func (.func 114) #[] #[.pointer (some ⟨w.heap.size, 0, none⟩), .pointer (some ⟨w2.heap.size, 0, none⟩), .pointer (some ⟨w3.heap.size, 0, none⟩)], .func (.func 115) #[] #[.pointer (some ⟨w.heap.size, 0, none⟩), .pointer (some ⟨w2.heap.size, 0, none⟩)]] 69 (0, 0))).heap[w3.heap.size]? = some (.cells #[.slice xa m.length xc] 79 (0, 0)) :=
    (heap_alloc_old _ _ (by simp)).trans (heap_alloc_new w3 _)
  have b6 := heap_alloc_new (w3.alloc (.cells #[.slice xa m.length xc] 79 (0, 0))) (.cells #[.func (.func 112) #[] #[.pointer (some ⟨w.heap.size, 0, none⟩), .pointer (some ⟨w2.heap.size, 0, none⟩)], .func (.func 114) #[] #[.pointer (some ⟨w.heap.size, 0, none⟩), .pointer (some ⟨w2.heap.size, 0, none⟩), .pointer (some ⟨w3.heap.size, 0, none⟩)], .func (.func 115) #[] #[.pointer (some ⟨w.heap.size, 0, none⟩), .pointer (some ⟨w2.heap.size, 0, none⟩)]] 69 (0, 0))
  rw [World.size_alloc] at b6
  generalize (w3.alloc (.cells #[.slice xa m.length xc] 79 (0, 0))).alloc (.cells #[.func (.func 112) #[] #[.pointer (some ⟨w.heap.size, 0, none⟩), .pointer (some ⟨w2.heap.size, 0, none⟩)], .func (.func 114) #[] #[.pointer (some ⟨w.heap.size, 0, none⟩), .pointer (some ⟨w2.heap.size, 0, none⟩), .pointer (some ⟨w3.heap.size, 0, none⟩)], .func (.func 115) #[] #[.pointer (some ⟨w.heap.size, 0, none⟩), .pointer (some ⟨w2.heap.size, 0, none⟩)]] 69 (0, 0)) = w4 at n4 b5 b6 ⊢
  have b4 := n4.at_ B3.out
  have b7 := n4.at_ B7.out
  have hn4 : Nw w w4 := Q.out.2.1.trans n4
  have hs4 : w3.heap.size + 1 < w4.heap.size := lt_of_block b6
  obtain ⟨Y, hY⟩ : ∃ Y : Nat → Prop, Y = fun k => X k ∨ w.heap.size ≤ k ∧ k < w4.heap.size := ⟨_, rfl⟩
  have y1 : Y w.heap.size := by rw [hY]; exact .inr ⟨Nat.le_refl _, by omega⟩
  have y2 : Y w2.heap.size := by rw [hY]; exact .inr ⟨by omega, by omega⟩
  have y5 : Y w3.heap.size := by rw [hY]; exact .inr ⟨by omega, by omega⟩
  have y3 : Y (w3.heap.size + 1) := by rw [hY]; exact .inr ⟨by omega, by omega⟩
  have y4 : ∀ g, (Value.slice xa m.length xc).ownBlock = some g → Y g := fun g hg => by
    have := Q.out.1.lt g hg
    rw [hY]; exact .inr ⟨Q.out.2.2 g hg, by omega⟩
  have hx4 : HasX Y w0 w4 b d := H.out.nwY hn4 (fun k hk => by rw [hY] at hk; exact hk)
  have hXY : ∀ k, X k → Y k := fun k hk => by rw [hY]; exact .inl hk
  have cA : ∀ W, Kept Y w4 W → W.cell? ⟨w.heap.size, 0, none⟩ = some (.pointer (some ⟨b, 0, none⟩)) := fun W hk => by
    have := (hk.2 _ y1 (by omega)).trans b4
    simp [World.cell?, this]
  have cN : ∀ W, Kept Y w4 W → W.cell? ⟨w2.heap.size, 0, none⟩ = some (.string ⟨sn.toArray⟩) := fun W hk => by
    have := (hk.2 _ y2 (by omega)).trans b7
    simp [World.cell?, this]
  have cB : ∀ W, Kept Y w4 W → W.cell? ⟨w3.heap.size, 0, none⟩ = some (.slice xa m.length xc) := fun W hk => by
    have := (hk.2 _ y5 (by omega)).trans b5
    simp [World.cell?, this]
  have cR : ∀ W, Kept Y w4 W → W.heap[w3.heap.size + 1]? = _ := fun W hk => (hk.2 _ y3 hs4).trans b6
  have hbs : ∀ W, Kept Y w4 W → Bs W (.slice xa m.length xc) m := fun W hk => ((Q.out.1.nw n4).rd).kept hk (fun _ g hg => y4 g hg)
  have hr : r = d.fresh sn m := by rw [← E.out, ← ES.out, ← EM.out]; rfl
  have hST := steps_ok (w := w4) [(112, #[.pointer (some ⟨w.heap.size, 0, none⟩), .pointer (some ⟨w2.heap.size, 0, none⟩)]), (114, #[.pointer (some ⟨w.heap.size, 0, none⟩), .pointer (some ⟨w2.heap.size, 0, none⟩), .pointer (some ⟨w3.heap.size, 0, none⟩)]), (115, #[.pointer (some ⟨w.heap.size, 0, none⟩), .pointer (some ⟨w2.heap.size, 0, none⟩)])]
    (Chain Y w0 w4 b d sn m) (fun x W => Kept Y w4 W ∧ HasX Y w0 W b r.1 ∧ x = r.2) (w3.heap.size + 1) 0 3 (by simp)
    (fun i hi => by
      have : i = 0 ∨ i = 1 ∨ i = 2 := by simp at hi; omega
      rcases this with rfl | rfl | rfl
      · exact enters_of Tryz.func112 (by kernel_rfl) (by kernel_rfl)
      · exact enters_of Tryz.func114 (by kernel_rfl) (by kernel_rfl)
      · exact enters_of Tryz.func115 (by kernel_rfl) (by kernel_rfl))
    (fun i W hS j hj => by
      have hb := cR W hS.1
      have : j = 0 ∨ j = 1 ∨ j = 2 := by simp at hj; omega
      rcases this with rfl | rfl | rfl <;> simp [World.cell?, hb, fnV])
    (fun i hi W hS => by
      have hk := hS.1
      have : i = 0 ∨ i = 1 ∨ i = 2 := by simp at hi; omega
      rcases this with rfl | rfl | rfl
      · refine (begin1_ok hS.2 w.heap.size w2.heap.size sn (cA W hk) (cN W hk)).mono fun e W' hd => zero_or hd (fun z hx hkk => ⟨hk.trans hkk, z, hx⟩) (fun z hx hkk => ⟨hk.trans hkk, ?_⟩)
        rw [hr, fresh_1 z]
        exact ⟨hx, rfl⟩
      · obtain ⟨z1, hx1⟩ := hS.2
        refine (begin2_ok hx1 w.heap.size w2.heap.size w3.heap.size sn (cA W hk) (cN W hk) HSL.out (cB W hk) (hbs W hk) y4 (by have := HHL.out; omega)).mono fun e W' hd => zero_or hd (fun z hx hkk => ⟨hk.trans hkk, z1, z, hx⟩) (fun z hx hkk => ⟨hk.trans hkk, ?_⟩)
        rw [hr, fresh_2 z1 z]
        exact ⟨hx, rfl⟩
      · obtain ⟨z1, z2, hx1⟩ := hS.2
        refine (begin3_ok hx1 w.heap.size w2.heap.size sn (cA W hk) (cN W hk)).mono fun e W' hd => zero_or hd (fun z hx hkk => ⟨hk.trans hkk, by rw [fresh_3 z1 z2]; exact ⟨z, hx⟩⟩) (fun z hx hkk => ⟨hk.trans hkk, ?_⟩)
        rw [hr, fresh_3 z1 z2]
        exact ⟨hx, rfl⟩)
    ⟨Kept.refl w4, hx4⟩
  have hend : ∀ x W, ((x = 0 ∧ Chain Y w0 w4 b d sn m 3 W) ∨ (x ≠ 0 ∧ (Kept Y w4 W ∧ HasX Y w0 W b r.1 ∧ x = r.2))) → x = r.2 ∧ HasX X w0 W b r.1 ∧ Kept X w W ∧ W.cell? ⟨w2.heap.size, 0, none⟩ = some (.string ⟨sn.toArray⟩) ∧ W.cell? ⟨w3.heap.size, 0, none⟩ = some (.slice xa m.length xc) := fun x W hc => by
    rcases hc with ⟨rfl, hk, z1, hx⟩ | ⟨hx, hk, hh, rfl⟩
    · rw [hr]
      exact ⟨z1.symm, hx.weak hXY, hn4.kept.trans (hk.weak hXY), cN W hk, cB W hk⟩
    · exact ⟨rfl, hh.weak hXY, hn4.kept.trans (hk.weak hXY), cN W hk, cB W hk⟩
  have HEND := Lib.hid hend
  have HST := Lib.hid hST
  clear hend hST cA cB cN cR hbs hx4 hXY y1 y2 y3 y4 y5 hY b4 b5 b6 b7 n4 hs4 hw2 hw3 hr
  refine HST.out.mono ?_
  rintro e w5 ⟨x, rfl, hc⟩
  obtain ⟨e1, e2, e3, c1, c2⟩ := HEND.out x w5 hc
  have Z := Lib.hid (And.intro e2 e3)
  clear hc e2 e3 HST HEND
  subst e1
  go_upto_region 5 with fail
  have g1 := cellG c1
  have g2 := cellG c2
  refine wp_region_quiet_below (by kernel_rfl) (by kernel_rfl) ?_
  repeat (first | go_big_quiet_step (fail) | quiet_step (fail))
  refine wpQuiet_nil ?_
  intro w6 hw6
  have N6 := Lib.hid (Nw.of_regrown hw6)
  clear hw6 g1 g2 c1 c2
  go_wp2
  refine bodyPost_ret (v := .tuple #[.string ⟨sn.toArray⟩, .int .i64 m.length, .int .i64 r.2]) (by simp [results, Tryz.results67, go_sem]) rfl ?_
  unfold Begun
  rw [E.out, ES.out, EM.out]
  exact ⟨rfl, Z.out.1.nw N6.out, Z.out.2.trans N6.out.kept⟩
end
end Go.Proofs.YtkbenkldfehhlaaGreatDoor

namespace Go.Proofs.YtkbenkldfehhlaaGreatDoor
open Go Go.RowKit Go.Sort
set_option maxRecDepth 100000
set_option maxHeartbeats 1600000
structure LogM (w : World) (p b : Nat) (L : Lg) (g o cap : Nat) : Prop where
  blk : w.heap[p]? = some (.cells #[.pointer (some ⟨b, 0, none⟩), .int .i64 L.size, .slice (some ⟨g, o, none⟩) L.l.length cap, .int .i64 L.n, .int .i64 L.acked, .int .i64 L.bytes, .bool L.over] 116 (0, 0))
  pcs : Pcs w (.slice (some ⟨g, o, none⟩) L.l.length cap) L.l
  some_ : L.l ≠ []
structure HasLG (X : Nat → Prop) (w0 w : World) (p b : Nat) (d : Dsk) (L : Lg) (g o cap : Nat) : Prop where
  mem : LogM w p b L g o cap
  disk : HasX (fun k => X k ∨ k = p ∨ k = g) w0 w b d
  p0 : w0.heap.size ≤ p
  p1 : ¬ X p
  g0 : w0.heap.size ≤ g
  g1 : g ≠ p ∧ ¬ X g
def HasL (X : Nat → Prop) (w0 w : World) (p b : Nat) (d : Dsk) (L : Lg) : Prop := ∃ g o cap, HasLG X w0 w p b d L g o cap
def DidL (X : Nat → Prop) (w0 w : World) (p b : Nat) (d' : Dsk) (L' : Lg) (v : Value) (e : Ending) (w' : World) : Prop := e = .returned v ∧ HasL X w0 w' p b d' L' ∧ Kept X w w'

section
variable {X Y : Nat → Prop} {w0 w w' : World} {p b : Nat} {d d' : Dsk} {L : Lg} {g o cap : Nat}
theorem LogM.cells (h : LogM w p b L g o cap) : w.cell? ⟨p, 0, none⟩ = some (.pointer (some ⟨b, 0, none⟩)) ∧ w.cell? ⟨p, 1, none⟩ = some (.int .i64 L.size) ∧ w.cell? ⟨p, 2, none⟩ = some (.slice (some ⟨g, o, none⟩) L.l.length cap) ∧
    w.cell? ⟨p, 3, none⟩ = some (.int .i64 L.n) ∧ w.cell? ⟨p, 4, none⟩ = some (.int .i64 L.acked) ∧ w.cell? ⟨p, 5, none⟩ = some (.int .i64 L.bytes) ∧ w.cell? ⟨p, 6, none⟩ = some (.bool L.over) ∧ ∀ i, w.frozen? ⟨p, i, none⟩ = false := by
  have := h.blk
  simp [World.cell?, World.frozen?, this]
theorem lastP_at {l : List Pc} (h : l ≠ []) : l[l.length - 1]'(by have := List.length_pos_iff.2 h; omega) = lastP l := by
  simp only [lastP, List.getLastD_eq_getLast?, List.getLast?_eq_some_getLast h, Option.getD_some, List.getLast_eq_getElem]
theorem LogM.last (h : LogM w p b L g o cap) : w.cell? ⟨g, o + (L.l.length - 1) * 4, none⟩ = some (.string ⟨(lastP L.l).name.toArray⟩) ∧ w.cell? ⟨g, o + (L.l.length - 1) * 4 + 1, none⟩ = some (.int .i64 (lastP L.l).first) ∧
    w.cell? ⟨g, o + (L.l.length - 1) * 4 + 2, none⟩ = some (.int .i64 (lastP L.l).count) ∧ w.cell? ⟨g, o + (L.l.length - 1) * 4 + 3, none⟩ = some (.bool (lastP L.l).dense) ∧ g < w.heap.size ∧ 0 < L.l.length ∧ L.l.length ≤ maxLen := by
  have hp := List.length_pos_iff.2 h.some_
  obtain ⟨a, c, he, h1, h2, hel⟩ := h.pcs.elem
  injection he with ea eb ec
  obtain ⟨g', o', e, hg, c0, c1, c2, c3⟩ := hel (L.l.length - 1) (by omega)
  rw [← ea] at e
  injection e with e
  injection e with e1 e2
  subst e1 e2
  rw [lastP_at h.some_] at c0 c1 c2 c3
  exact ⟨c0, c1, c2, c3, hg, hp, by omega⟩
theorem LogM.kept (h : LogM w p b L g o cap) (hk : Kept Y w w') (hp : Y p) (hg : Y g) : LogM w' p b L g o cap := by
  refine ⟨(hk.2 p hp (lt_of_block h.blk)).trans h.blk, ⟨?_, h.pcs.ok⟩, h.some_⟩
  obtain ⟨e, ⟨a, hv, hn⟩ | ⟨g', o', cap', hv, h1, h2, h3, h4⟩⟩ := h.pcs.src
  · exact ⟨e, .inl ⟨a, hv, hn⟩⟩
  · injection hv with ea eb ec
    injection ea with ea
    injection ea with e1 e2
    subst e1 e2 ec
    exact ⟨e, .inr ⟨g, o, cap, rfl, h1, h2, Nat.lt_of_lt_of_le h3 hk.1, fun j hj => hk.cell (h4 j hj) hg⟩⟩
theorem HasLG.disk' (h : HasLG X w0 w p b d L g o cap) (hd : HasX (fun k => X k ∨ k = p ∨ k = g) w0 w' b d') (hk : Kept (fun k => X k ∨ k = p ∨ k = g) w w') : HasLG X w0 w' p b d' L g o cap :=
  ⟨h.mem.kept hk (.inr (.inl rfl)) (.inr (.inr rfl)), hd, h.p0, h.p1, h.g0, h.g1⟩
theorem HasLG.nw (h : HasLG X w0 w p b d L g o cap) (hw : Nw w w') : HasLG X w0 w' p b d L g o cap := h.disk' (h.disk.nw hw) hw.kept
theorem HasL.nw (h : HasL X w0 w p b d L) (hw : Nw w w') : HasL X w0 w' p b d L := by
  obtain ⟨g, o, cap, h⟩ := h
  exact ⟨g, o, cap, h.nw hw⟩
theorem HasL.base (h : HasL X w0 w p b d L) : Nw w0 w := by
  obtain ⟨g, o, cap, h⟩ := h
  exact h.disk.base
theorem HasL.ok (h : HasL X w0 w p b d L) : d.Ok := by
  obtain ⟨g, o, cap, h⟩ := h
  exact h.disk.ok
theorem HasL.has (h : HasL X w0 w p b d L) : HasX X w0 w b d := by
  obtain ⟨g, o, cap, h⟩ := h
  exact h.disk.weak fun k hk => .inl hk
theorem HasL.step {P : Program} {f : FuncId} {args : Array Value} {v : Value} (h : HasL X w0 w p b d L)
    (hop : ∀ Y : Nat → Prop, (∀ k, X k → Y k) → HasX Y w0 w b d → Calls P f args w (DidX Y w0 w b d' v)) : Calls P f args w (DidL X w0 w p b d' L v) := by
  obtain ⟨g, o, cap, h⟩ := h
  refine (hop _ (fun k hk => .inl hk) h.disk).mono ?_
  rintro e w' ⟨rfl, h1, h2⟩
  exact ⟨rfl, ⟨g, o, cap, h.disk' h1 h2⟩, h2.weak fun k hk => .inl hk⟩
theorem HasLG.put (h : HasLG X w0 w p b d L g o cap) (L' : Lg) {W : World} (ho : Only (fun k => k = p) w W) (hb : W.heap[p]? = some (.cells #[.pointer (some ⟨b, 0, none⟩), .int .i64 L'.size, .slice (some ⟨g, o, none⟩) L'.l.length cap, .int .i64 L'.n, .int .i64 L'.acked, .int .i64 L'.bytes, .bool L'.over] 116 (0, 0)))
    (hl : L'.l = L.l) : HasLG X w0 W p b d L' g o cap ∧ Kept X w W := by
  have hg : ∀ a : Addr, a.block = g → ∀ u, w.cell? a = some u → W.cell? a = some u := fun a ha u hu => ho.cell hu (by rw [ha]; exact h.g1.1)
  refine ⟨⟨⟨hb, ⟨?_, by rw [hl]; exact h.mem.pcs.ok⟩, by rw [hl]; exact h.mem.some_⟩, h.disk.put ho (fun k hk _ => by subst hk; exact ⟨.inr (.inl rfl), h.p0⟩) (fun k hk => .inl hk), h.p0, h.p1, h.g0, h.g1⟩, ho.size, fun k hk hlt => ho.block k hlt (fun e => h.p1 (e ▸ hk))⟩
  rw [hl]
  obtain ⟨e, ⟨a, hv, hn⟩ | ⟨g', o', cap', hv, h1, h2, h3, h4⟩⟩ := h.mem.pcs.src
  · exact ⟨e, .inl ⟨a, hv, hn⟩⟩
  · injection hv with ea eb ec
    injection ea with ea
    injection ea with e1 e2
    subst e1 e2 ec
    exact ⟨e, .inr ⟨g, o, cap, rfl, h1, h2, Nat.lt_of_lt_of_le h3 ho.size, fun j hj => hg _ rfl _ (h4 j hj)⟩⟩
theorem lup_ok (h : LogM w p b L g o cap) : Calls Tryz.prog 71 #[.pointer (some ⟨p, 0, none⟩)] w fun e w' => e = .returned (.int .i64 (if L.over then 16 else 0)) ∧ w = w' := by
  obtain ⟨c0, -, -, -, -, -, c6, -⟩ := h.cells
  have hp := lt_of_block h.blk
  clear h
  cases hov : L.over
  all_goals
    rw [hov] at c6
    clear hov
    go_enter Tryz.func71, Tryz.ntmps71
    go_wp2
    go_ret
    exact ⟨rfl, rfl⟩
theorem lends_ok (h : HasLG X w0 w p b d L g o cap) (x : Int) : Calls Tryz.prog 75 #[.pointer (some ⟨p, 0, none⟩), .int .i64 x] w (DidL X w0 w p b d { L with over := decide (x ≠ 0) } (.int .i64 x)) := by
  obtain ⟨-, -, -, -, -, -, c6, cf⟩ := h.mem.cells
  have f6 := cf 6
  have H := Lib.hid h
  clear h cf
  go_enter Tryz.func75, Tryz.ntmps75
  go_wp2
  go_ret
  have hb := heap_setCell_at H.out.mem.blk 6 (.bool (x != 0))
  have hq : (decide (x ≠ 0)) = (x != 0) := by simp [bne, BEq.beq]
  have := H.out.put { L with over := decide (x ≠ 0) } (W := w.setCell ⟨p, 6, none⟩ (.bool (x != 0))) (Only.setCell (S := fun k => k = p) (p := ⟨p, 6, none⟩) (Only.refl w) (fun _ => rfl) _) (by rw [hb, hq]; rfl) rfl
  exact ⟨rfl, ⟨g, o, cap, this.1⟩, this.2⟩
theorem lopen_ok (h : LogM w p b L g o cap) : Calls Tryz.prog 73 #[.pointer (some ⟨p, 0, none⟩)] w fun e w' => e = .returned (.pointer (some ⟨g, o + (L.l.length - 1) * 4, none⟩)) ∧ Nw w w' := by
  obtain ⟨-, -, c2, -⟩ := h.cells
  have hp := lt_of_block h.blk
  obtain ⟨-, -, -, -, hg, hl0, hl1⟩ := h.last
  obtain ⟨n, hn⟩ : ∃ n, L.l.length = n := ⟨_, rfl⟩
  rw [hn] at c2 hl0 hl1 ⊢
  have g2 := cellG c2
  have hmx : n ≤ 9223372036854775807 := by unfold maxLen at hl1; omega
  clear h hn hl1
  obtain ⟨m, rfl⟩ : ∃ m, n = m + 1 := ⟨n - 1, by omega⟩
  have hw1 : IntKind.i64.wrap (((m + 1 : Nat) : Int) - 1) = (m : Int) := by rw [IntWalk.i64_in _ (by omega)]; omega
  have hw2 : ((m + 1 : Nat) : Int) - 1 = (m : Int) := by omega
  go_enter Tryz.func73, Tryz.ntmps73
  go_upto_region 1 with fail
  refine wp_region_quiet_below (by kernel_rfl) (by kernel_rfl) ?_
  repeat (first | go_big_quiet_step (fail) | quiet_step (fail))
  refine wpQuiet_nil ?_
  intro w6 hw6
  have N6 := Lib.hid (Nw.of_regrown hw6)
  clear hw6
  go_wp2
  go_ret
  exact ⟨rfl, N6.out⟩
theorem Len_ok (h : LogM w p b L g o cap) : Calls Tryz.prog 19 #[.pointer (some ⟨p, 0, none⟩)] w fun e w' => e = .returned (.int .i64 L.n) ∧ w = w' := by
  obtain ⟨-, -, -, c3, -⟩ := h.cells
  have hp := lt_of_block h.blk
  clear h
  go_enter Tryz.func19, Tryz.ntmps19
  go_wp2
  go_ret
  exact ⟨rfl, rfl⟩
theorem Acked_ok (h : LogM w p b L g o cap) : Calls Tryz.prog 20 #[.pointer (some ⟨p, 0, none⟩)] w fun e w' => e = .returned (.int .i64 L.acked) ∧ w = w' := by
  obtain ⟨-, -, -, -, c4, -⟩ := h.cells
  have hp := lt_of_block h.blk
  clear h
  go_enter Tryz.func20, Tryz.ntmps20
  go_wp2
  go_ret
  exact ⟨rfl, rfl⟩
theorem Over_ok (h : LogM w p b L g o cap) : Calls Tryz.prog 65 #[.pointer (some ⟨p, 0, none⟩)] w fun e w' => e = .returned (.bool L.over) ∧ w = w' := by
  obtain ⟨-, -, -, -, -, -, c6, -⟩ := h.cells
  have hp := lt_of_block h.blk
  clear h
  go_enter Tryz.func65, Tryz.ntmps65
  go_wp2
  go_ret
  exact ⟨rfl, rfl⟩
theorem infoPc : (Tryz.prog.info? 98).map (fun i => (i.zero, i.size, i.bytes)) = some (some (.agg #[.string ⟨#[]⟩, .int .i64 0, .int .i64 0, .bool false]), 4, 40) := by kernel_rfl
theorem pcV_one (l : List Pc) : ∀ u ∈ l.flatMap pcV, u.oneCell' = true := fun u hu => by
  obtain ⟨q, -, hq⟩ := List.mem_flatMap.1 hu
  simp only [pcV, List.mem_cons, List.not_mem_nil, or_false] at hq
  rcases hq with rfl | rfl | rfl | rfl <;> rfl
def CloneP (w : World) (l : List Pc) (e : Ending) (w' : World) : Prop := ∃ v', e = .returned v' ∧ Vec 4 w' v' l.length (l.flatMap pcV) ∧ Nw w w' ∧ ∀ g, v'.ownBlock = some g → w.heap.size ≤ g
theorem eqlPcs (w : World) (a : Option Addr) (n c : Nat) : (binOp .eql 32 (.slice a n c) (.slice none 0 0)).run Tryz.prog w = .ok (.bool a.isNone) w :=
  Lib.run_eql_slice_nil w _ _ a n c 0 0 Tryz.underlying32
theorem PClone_ok {v : Value} {l : List Pc} (hv : Pcs w v l) (hl : l.length ≤ 1000000) :
    Calls Tryz.prog 63 #[v] w (CloneP w l) := by
  obtain ⟨i0, hi, hz0, hz1, hz2⟩ := info_parts infoPc
  have HI := Lib.hid hi
  have HZ0 := Lib.hid hz0
  have HZ1 := Lib.hid hz1
  have HZ2 := Lib.hid hz2
  clear hi hz0 hz1 hz2
  have HV := Lib.hid hv
  obtain ⟨a, cap, rfl, hc, -, hel⟩ := hv.elem
  have hq := eqlPcs w a l.length cap
  cases a with
  | none =>
    have hl0 : l.length = 0 := by
      rcases Nat.eq_zero_or_pos l.length with h | h
      · exact h
      · obtain ⟨g, o, e, -⟩ := hel 0 h
        cases e
    have hnil : l = [] := List.eq_nil_of_length_eq_zero hl0
    subst hnil
    clear hv hel hq HV
    have hq := eqlPcs w none 0 cap
    simp only [Option.isNone_none] at hq
    show Calls _ _ #[.slice none 0 cap] _ _
    go_enter Tryz.func63, Tryz.ntmps63
    go_wp2
    go_ret
    exact ⟨_, rfl, Vec.nil, Nw.refl _, fun g hg => by cases hg⟩
  | some a =>
    clear hv hel
    have hn0 := (Nw.refl w).alloc (.cells #[] 98 (0, 0))
    have V0 := Lib.hid (vec_lit w 98 4 0 [] #[] (0, 0) rfl rfl (by decide) (fun j hj => by omega))
    have S0 := Lib.hid (HV.out.nw hn0).src
    go_enter Tryz.func63, Tryz.ntmps63
    go_wp2_with (at_builtin; refine wpList_append_vec rfl _ _ 32 rfl 98 i0 (.agg #[.string ⟨#[]⟩, .int .i64 0, .int .i64 0, .bool false]) 4 40 Tryz.underlying32 HI.out HZ0.out HZ1.out HZ2.out rfl (by decide) rfl rfl V0.out S0.out ?c1 ?c2 ?c3 ?_)
    case c1 => exact pcV_one l
    case c2 => unfold maxLen; omega
    case c3 => omega
    intro v1 w1 q1 q2 q3
    have Q : Hid (CloneP w l (.returned v1) w1) := Lib.hid (by
      refine ⟨v1, rfl, ?_, hn0.trans' q2 (fun k hk hc => ?_), fun g hg => ?_⟩
      · simpa using q1
      · have e : w.heap.size = k := by simpa [Value.ownBlock] using hc
        omega
      · rcases q3 with h | h
        · rw [h] at hg
          have e : w.heap.size = g := by simpa [Value.ownBlock] using hg
          omega
        · have := h g hg
          omega)
    clear q1 q2 q3 hn0
    go_wp2
    go_ret
    exact Q.out
theorem Vec.pcs {v : Value} {l : List Pc} (h : Vec 4 w v l.length (l.flatMap pcV)) (ho : ∀ q ∈ l, q.Ok) : Pcs w v l := ⟨h.src, ho⟩
theorem Pieces_ok (h : LogM w p b L g o cap) (hl : L.l.length ≤ 1000000) : Calls Tryz.prog 21 #[.pointer (some ⟨p, 0, none⟩)] w (CloneP w L.l) := by
  obtain ⟨-, -, c2, -⟩ := h.cells
  have hp := lt_of_block h.blk
  have HC := Lib.hid (PClone_ok h.pcs hl)
  clear h
  go_enter Tryz.func21, Tryz.ntmps21
  go_wp2_with fail
  refine HC.out.mono ?_
  rintro e w1 ⟨v, rfl, q⟩
  have Q := Lib.hid q
  clear q
  go_wp2
  go_ret
  exact ⟨_, rfl, Q.out⟩
end
end Go.Proofs.YtkbenkldfehhlaaGreatDoor

namespace Go.Proofs.YtkbenkldfehhlaaGreatDoor
open Go Go.RowKit Go.Sort
set_option maxRecDepth 100000
set_option maxHeartbeats 1600000
section
variable {X Y : Nat → Prop} {w0 w w' : World} {p b : Nat} {d d' : Dsk} {L : Lg}
theorem DidL.of {X : Nat → Prop} {w0 w W w' : World} {p b : Nat} {d' : Dsk} {L' : Lg} {v : Value} {e : Ending} (hk : Kept X w W) (h : DidL X w0 W p b d' L' v e w') : DidL X w0 w p b d' L' v e w' := ⟨h.1, h.2.1, hk.trans h.2.2⟩
theorem nameAt {w : World} {p b : Nat} {L : Lg} {g o cap : Nat} (h : LogM w p b L g o cap) : w.cell? ⟨p, 0, none⟩ = some (.pointer (some ⟨b, 0, none⟩)) ∧ w.cell? ⟨g, o + (L.l.length - 1) * 4, none⟩ = some (.string ⟨(lastP L.l).name.toArray⟩) ∧ w.cell? ⟨p, 3, none⟩ = some (.int .i64 L.n) := ⟨h.cells.1, h.last.1, h.cells.2.2.2.1⟩

theorem LSync_ok (h : HasL X w0 w p b d L) : Calls Tryz.prog 30 #[.pointer (some ⟨p, 0, none⟩)] w (DidL X w0 w p b (L.sync d).d (L.sync d).L (.int .i64 (L.sync d).e)) := by
  obtain ⟨g, o, cap, h⟩ := h
  have H := Lib.hid h
  have hpl := lt_of_block h.mem.blk
  cases hov : L.over
  case true =>
    have E : Hid (L.sync d = ⟨d, L, 16⟩) := Lib.hid (by unfold Lg.sync; rw [hov]; rfl)
    have HU := Lib.hid (lup_ok h.mem)
    rw [hov] at HU
    rw [E.out]
    clear h hov E
    go_enter Tryz.func30, Tryz.ntmps30
    go_wp2_with fail
    refine HU.out.mono ?_
    rintro e w1 ⟨rfl, rfl⟩
    go_wp2
    go_ret
    exact ⟨rfl, ⟨g, o, cap, H.out⟩, Kept.refl _⟩
  case false =>
    obtain ⟨r, hr⟩ : ∃ r, d.sync (lastP L.l).name = r := ⟨_, rfl⟩
    have E1 : Hid (r.2 ≠ 0 → L.sync d = ⟨r.1, { L with over := true }, r.2⟩) := Lib.hid (fun hx => by unfold Lg.sync; rw [hov, hr, if_neg (by simp), if_pos hx])
    have E2 : Hid (r.2 = 0 → L.sync d = ⟨r.1, { L with acked := L.n }, 0⟩) := Lib.hid (fun hx => by unfold Lg.sync; rw [hov, hr, if_neg (by simp), if_neg (by simp [hx])])
    have HR := Lib.hid hr
    have HOV := Lib.hid hov
    have HU := Lib.hid (lup_ok h.mem)
    rw [hov] at HU
    obtain ⟨-, -, -, -, hg, hl0, -⟩ := h.mem.last
    clear h hov hr hl0
    go_enter Tryz.func30, Tryz.ntmps30
    go_wp2_with fail
    refine HU.out.mono ?_
    rintro e w1 ⟨rfl, rfl⟩
    go_upto_region 4 with fail
    have HO : Hid (∀ W, Nw w W → Calls Tryz.prog 73 #[.pointer (some ⟨p, 0, none⟩)] W fun e w' => e = .returned (.pointer (some ⟨g, o + (L.l.length - 1) * 4, none⟩)) ∧ Nw W w') := Lib.hid (fun W hW => lopen_ok (H.out.nw hW).mem)
    have HC : Hid (∀ W, Nw w W → W.cell? ⟨p, 0, none⟩ = some (.pointer (some ⟨b, 0, none⟩)) ∧ W.cell? ⟨g, o + (L.l.length - 1) * 4, none⟩ = some (.string ⟨(lastP L.l).name.toArray⟩) ∧ p < W.heap.size ∧ g < W.heap.size) := Lib.hid (fun W hW => ⟨hW.cell (nameAt H.out.mem).1, hW.cell (nameAt H.out.mem).2.1, Nat.lt_of_lt_of_le hpl hW.size, Nat.lt_of_lt_of_le hg hW.size⟩)
    generalize o + (L.l.length - 1) * 4 = q at HO HC
    generalize hnm : (lastP L.l).name = nm at HC
    rw [hnm] at HR
    refine wp_region_steps 10 [.rd 0, .rd 1, .rd 2, .rd 3, .rd 4, .dn 5, .rd 6, .rd 7, .rd 8, .dn 9] [10] (fun x => x.cell? ⟨p, 0, none⟩ = some (.pointer (some ⟨b, 0, none⟩)) ∧ x.cell? ⟨g, q, none⟩ = some (.string ⟨nm.toArray⟩) ∧ p < x.heap.size ∧ g < x.heap.size) (by kernel_rfl) (by kernel_rfl) (fun _ _ _ _ _ h => h) (HC.out _ ((Nw.refl w).drew)) ?_
    refine stp_to (.pointer (some ⟨p, 0, none⟩)) rfl rfl rfl (fun x hx => by go_simp) (fun K hK => ?_); go_simp; refine hK _ ?_; clear hK K
    refine stp_to (.pointer (some ⟨p, 0, none⟩)) rfl rfl rfl (fun x hx => by obtain ⟨e1, e2, e3, e4⟩ := hx; go_simp) (fun K hK => ?_); go_simp; refine hK _ ?_; clear hK K
    refine stp_to (.pointer (some ⟨p, 0, none⟩)) rfl rfl rfl (fun x hx => by obtain ⟨e1, e2, e3, e4⟩ := hx; go_simp) (fun K hK => ?_); go_simp; refine hK _ ?_; clear hK K
    refine stp_to (.pointer (some ⟨b, 0, none⟩)) rfl rfl rfl (fun x hx => by obtain ⟨e1, e2, e3, e4⟩ := hx; go_simp) (fun K hK => ?_); go_simp; refine hK _ ?_; clear hK K
    refine stp_to (.pointer (some ⟨p, 0, none⟩)) rfl rfl rfl (fun x hx => by go_simp) (fun K hK => ?_); go_simp; refine hK _ ?_; clear hK K
    refine stp_dn rfl (fun K hK => ?_)
    go_wp2_with fail
    go_at_call 73
    refine (HO.out _ ((Nw.refl w).drew)).mono ?_
    rintro e w1 ⟨rfl, n1⟩
    have N1 := Lib.hid (((Nw.refl w).drew).trans n1)
    clear n1 HO
    go_wp2
    refine hK _ _ (HC.out _ N1.out) ?_; clear hK K
    refine stp_to (.pointer (some ⟨g, q, none⟩)) rfl rfl rfl (fun x hx => by obtain ⟨e1, e2, e3, e4⟩ := hx; go_simp) (fun K hK => ?_); go_simp; refine hK _ ?_; clear hK K
    refine stp_to (.pointer (some ⟨g, q, none⟩)) rfl rfl rfl (fun x hx => by obtain ⟨e1, e2, e3, e4⟩ := hx; go_simp) (fun K hK => ?_); go_simp; refine hK _ ?_; clear hK K
    refine stp_to (.string ⟨nm.toArray⟩) rfl rfl rfl (fun x hx => by obtain ⟨e1, e2, e3, e4⟩ := hx; go_simp) (fun K hK => ?_); go_simp; refine hK _ ?_; clear hK K
    have H1 := Lib.hid (H.out.nw N1.out)
    refine stp_dn rfl (fun K hK => ?_)
    go_wp2_with fail
    go_at_call 78
    refine (H1.out.disk.sync nm (by rw [HR.out])).mono ?_
    rintro e w2 ⟨rfl, q1, q2⟩
    have H2 := Lib.hid (H1.out.disk' q1 q2)
    have K2 : Hid (Kept X w w2) := Lib.hid (N1.out.kept.trans (q2.weak fun k hk => .inl hk))
    have hc2 : w2.cell? ⟨p, 0, none⟩ = some (.pointer (some ⟨b, 0, none⟩)) ∧ w2.cell? ⟨g, q, none⟩ = some (.string ⟨nm.toArray⟩) ∧ p < w2.heap.size ∧ g < w2.heap.size := by
      obtain ⟨e1, e2, e3, e4⟩ := HC.out _ N1.out
      exact ⟨q2.cell e1 (.inr (.inl rfl)), q2.cell e2 (.inr (.inr rfl)), Nat.lt_of_lt_of_le e3 q2.1, Nat.lt_of_lt_of_le e4 q2.1⟩
    clear q1 q2
    go_wp2
    refine hK _ _ hc2 ?_; clear hK K hc2
    refine wpSteps_nil ?_
    refine stp_do rfl (by decide) (fun K hK => ?_)
    go_wp2
    (try (refine hK _ _ ?_; clear hK K))
    refine wpNums_nil ?_
    by_cases hx : r.2 = 0
    · have E := Lib.hid (E2.out hx)
      obtain ⟨-, -, -, c3, c4, -, -, cf⟩ := H2.out.mem.cells
      have f4 := cf 4
      have hp2 := lt_of_block H2.out.mem.blk
      obtain ⟨rd, rx⟩ := r
      simp only at hx
      subst hx
      clear cf
      go_wp2
      go_ret
      rw [E.out]
      have hb := heap_setCell_at H2.out.mem.blk 4 (.int .i64 L.n)
      have := H2.out.put { L with acked := L.n } (W := w2.setCell ⟨p, 4, none⟩ (.int .i64 L.n)) (Only.setCell (S := fun k => k = p) (p := ⟨p, 4, none⟩) (Only.refl w2) (fun _ => rfl) _) (by rw [hb]; rfl) rfl
      exact ⟨rfl, ⟨g, o, cap, this.1⟩, K2.out.trans this.2⟩
    · have E := Lib.hid (E1.out hx)
      have hb : (r.2 != 0) = true := by simpa using hx
      have HLE := Lib.hid (lends_ok H2.out r.2)
      have HX := Lib.hid hx
      clear hx
      go_wp2_with fail
      refine HLE.out.mono ?_
      rintro e w3 ⟨rfl, q1, q2⟩
      have Z := Lib.hid (And.intro q1 q2)
      clear q1 q2
      go_wp2
      go_ret
      rw [E.out]
      refine ⟨rfl, ?_, K2.out.trans Z.out.2⟩
      have := Z.out.1
      rw [decide_eq_true HX.out] at this
      exact this
end
end Go.Proofs.YtkbenkldfehhlaaGreatDoor

namespace Go.Proofs.YtkbenkldfehhlaaGreatDoor
open Go Go.RowKit
section
variable {P : Program} {ops : Array Oper} {md : Region.Mode} {C : World → Prop} {Q : Exit → Act → World → Prop}
def Region.stepsF (md : Region.Mode) (ops : Array Oper) (n : Nat) (F : Array Bool → Bool) : List Stp → Array Bool → Bool
  | [], listed => F listed
  | .rd i :: l, listed => decide (i < n) && (Region.ready md ops listed).contains i && Region.free md ops listed i && Region.stepsF md ops n F l (listed.setIfInBounds i true)
  | .dn i :: l, listed => decide (i < n) && decide (Region.ready md ops listed = [i]) && Region.stepsF md ops n F l (listed.setIfInBounds i true)
theorem wpAnyK_stepsF {n g : Nat} {F : Array Bool → Bool} {K : Act → World → Prop} (hsel : Region.noSelect ops = true) (hs : Region.sinkB md ops n = true) (hc : Region.chainB md ops n = true) (hn : n < ops.size)
    (hQ : ∀ (c : List PanicEntry) (a : Act) (d : Tmp) (v : Value) (w : World), Q (.panic c) (a.put (some d) v) w → Q (.panic c) a w)
    (hK : ∀ listed a w, C w → HeadInv md ops n listed → F listed = true → K a w → wpAnyK P md ops C n Q g listed a w) :
    ∀ (l : List Stp) (listed : Array Bool) (a : Act) (w : World), C w → HeadInv md ops n listed → Region.stepsF md ops n F l listed = true → wpSteps P ops C Q K l a w →
      wpAnyK P md ops C n Q (l.length + g) listed a w
  | [], listed, a, w, hC, inv, hB, h => by rw [List.length_nil, Nat.zero_add]; exact hK listed a w hC inv hB h
  | .dn i :: l, listed, a, w, hC, inv, hB, h => by
    simp only [Region.stepsF, Bool.and_eq_true, decide_eq_true_eq] at hB
    rw [show (Stp.dn i :: l).length + g = (l.length + g) + 1 by simp only [List.length_cons]; omega]
    refine ⟨fun h1 => (by rw [hB.1.2] at h1; cases h1), fun j hj => ?_⟩
    have hji : j = i := by rw [hB.1.2] at hj; simpa using hj
    subst hji
    exact wpOp_mono (fun a' w' h' => ⟨fun _ => h'.1, wpAnyK_stepsF hsel hs hc hn hQ hK l _ a' w' h'.1 (inv.set hj hB.1.1) hB.2 h'.2⟩) h
  | .rd i :: l, listed, a, w, hC, inv, hB, h => by
    simp only [Region.stepsF, Bool.and_eq_true, decide_eq_true_eq] at hB
    obtain ⟨⟨⟨hin, hr⟩, hf⟩, hB'⟩ := hB
    have hr' : i ∈ Region.ready md ops listed := by simpa using hr
    obtain ⟨hun, o, ho, _⟩ := mem_ready.1 hr'
    simp only [wpSteps, ho] at h
    have key : ∃ v, YieldsW P ops C o v a ∧ wpSteps P ops C Q K l (a.put o.dst v) w := by
      by_cases hw : Region.wanted o (yielded ops a.tmps) = true
      · simp only [hw, if_true] at h
        obtain ⟨v, h1, h2⟩ := h
        exact ⟨v, .inl ⟨hw, h1⟩, h2⟩
      · simp only [hw] at h
        exact ⟨undef, .inr ⟨by simpa using hw, rfl⟩, h⟩
    obtain ⟨v, hy, hK'⟩ := key
    rw [show (Stp.rd i :: l).length + g = (l.length + g) + 1 by simp only [List.length_cons]; omega]
    exact wpAnyK_first ho (Region.noSelect_spec hsel) (fun c a w h => by cases hdst : o.dst with | none => (rw [hdst] at h; exact h) | some d => (rw [hdst] at h; exact hQ c a d v w h)) hs hc hn hin (l.length + g) listed a w hC inv (Region.free_spec ho hf) hr' hy
      (wpAnyK_stepsF hsel hs hc hn hQ hK l _ _ w hC (inv.set hr' hin) hB' hK')
def wpFork (P : Program) (ops : Array Oper) (C : World → Prop) (Q : Exit → Act → World → Prop) (K : Act → World → Prop) (i j : Nat) (s1 s2 : List Stp) (a : Act) (w : World) : Prop :=
  wpSteps P ops C Q K (.dn i :: s1) a w ∧ wpSteps P ops C Q K (.dn j :: s2) a w
def Region.forkB (md : Region.Mode) (ops : Array Oper) (n : Nat) (r : List Nat) (i j : Nat) (s1 s2 : List Stp) (listed : Array Bool) : Bool :=
  decide (i < n) && decide (j < n) && decide (Region.ready md ops listed = [i, j]) && decide (s1.length = s2.length) && Region.stepsB md ops n r s1 (listed.setIfInBounds i true) && Region.stepsB md ops n r s2 (listed.setIfInBounds j true)
theorem wpAnyK_fork {n : Nat} (hsel : Region.noSelect ops = true) (hs : Region.sinkB md ops n = true) (hc : Region.chainB md ops n = true) (hn : n < ops.size)
    (hQ : ∀ (c : List PanicEntry) (a : Act) (d : Tmp) (v : Value) (w : World), Q (.panic c) (a.put (some d) v) w → Q (.panic c) a w) (r : List Nat) (i j : Nat) (s1 s2 : List Stp) (listed : Array Bool) (a : Act) (w : World)
    (_hC : C w) (inv : HeadInv md ops n listed) (hB : Region.forkB md ops n r i j s1 s2 listed = true) (h : wpFork P ops C Q (fun a' w' => wpNums P ops C n Q r a' w') i j s1 s2 a w) : wpAnyK P md ops C n Q (s1.length + r.length + 1) listed a w := by
  simp only [Region.forkB, Bool.and_eq_true, decide_eq_true_eq] at hB
  obtain ⟨⟨⟨⟨⟨hi, hj⟩, hr⟩, hl⟩, h1⟩, h2⟩ := hB
  refine ⟨fun h0 => (by rw [hr] at h0; cases h0), fun k hk => ?_⟩
  have hkk : k = i ∨ k = j := by rw [hr] at hk; simpa using hk
  rcases hkk with rfl | rfl
  · exact wpOp_mono (fun a' w' h' => ⟨fun _ => h'.1, wpAnyK_steps hsel hs hc hn hQ r s1 _ a' w' h'.1 (inv.set hk hi) h1 h'.2⟩) h.1
  · rw [hl]
    exact wpOp_mono (fun a' w' h' => ⟨fun _ => h'.1, wpAnyK_steps hsel hs hc hn hQ r s2 _ a' w' h'.1 (inv.set hk hj) h2 h'.2⟩) h.2
def Region.fkB (ops : Array Oper) (n : Nat) (l : List Stp) (i j : Nat) (s1 s2 : List Stp) (r : List Nat) : Bool :=
  Region.noSelect ops && decide (n < ops.size) && Region.sinkB .any ops n && Region.chainB .any ops n && decide (l.length + (s1.length + r.length + 1) = ops.size) && Region.stepsF .any ops n (Region.forkB .any ops n r i j s1 s2) l (Array.replicate ops.size false)
theorem wp_region_fork {id : Nat} {a : Act} {w : World} {l : List Oper} (n : Nat) (st : List Stp) (i j : Nat) (s1 s2 : List Stp) (r : List Nat) (C : World → Prop) (hm : P.follows .mixedOrders = true) (hB : Region.fkB l.toArray n st i j s1 s2 r = true)
    (hQ : ∀ (c : List PanicEntry) (a : Act) (d : Tmp) (v : Value) (w : World), Q (.panic c) (a.put (some d) v) w → Q (.panic c) a w) (hC : C w.drew)
    (h : wpSteps P l.toArray C Q (wpFork P l.toArray C Q (fun a' w' => wpNums P l.toArray C n Q r a' w') i j s1 s2) st a w.drew) : (Code.region id l.toArray true).wp P Q a w := by
  simp only [Region.fkB, Bool.and_eq_true, decide_eq_true_eq] at hB
  obtain ⟨⟨⟨⟨⟨hsel, hn⟩, hs⟩, hc⟩, hlen⟩, hR⟩ := hB
  have inv0 : HeadInv .any l.toArray n (Array.replicate l.toArray.size false) :=
    ⟨by simp, fun j oj _ hl => (by rw [getD_replicate_false] at hl; cases hl), fun t _ ht => getD_in (by simpa using ht) (getD_replicate_false _ _)⟩
  have H := wpAnyK_stepsF (md := .any) (K := wpFork P l.toArray C Q (fun a' w' => wpNums P l.toArray C n Q r a' w') i j s1 s2) hsel hs hc hn hQ (fun listed a w hC inv hF hK => wpAnyK_fork hsel hs hc hn hQ r i j s1 s2 listed a w hC inv hF hK) st _ a w.drew hC inv0 hR h
  have H' := wpAny_of_K _ _ _ _ H
  rw [hlen] at H'
  exact wp_region_any hm H'
end
end Go.Proofs.YtkbenkldfehhlaaGreatDoor
