/-
  Texts merged by a program of this claim's: LogD, LogE, LogF.
-/
import Derived.Test.YtjapijndljknnaaGreatDoorM15
import Derived.Test.YtjapijndljknnaaGreatDoorShelfNS
import Derived.Lib.AppendIntMem
/-
  seglog.steps, Install, begin, walked.
-/
namespace Go.Proofs.YtjapijndljknnaaGreatDoor
open Go Go.RowKit Go.Sort
set_option maxRecDepth 100000
set_option maxHeartbeats 1600000

theorem two_eta (r : Dsk × Int) : r = (r.1, r.2) := rfl
def fnV (f : Nat × Array Value) : Value := .func (.func f.1) #[] f.2
theorem steps_ok {w : World} (fs : List (Nat × Array Value)) (S : Nat → World → Prop) (T : Int → World → Prop) (g o cap : Nat) (hlen : fs.length ≤ 100)
    (hen : ∀ i (h : i < fs.length), Enters Tryz.prog fs[i].1) (hcell : ∀ i W, S i W → ∀ j (h : j < fs.length), W.cell? ⟨g, o + j, none⟩ = some (fnV fs[j]))
    (hdo : ∀ i (h : i < fs.length) W, S i W → Calls Tryz.prog fs[i].1 fs[i].2 W fun e W' => ∃ x, e = .returned (.int .i64 x) ∧ ((x = 0 ∧ S (i + 1) W') ∨ (x ≠ 0 ∧ T x W')))
    (h0 : S 0 w) : Calls Tryz.prog 72 #[.slice (some ⟨g, o, none⟩) fs.length cap] w fun e W' => ∃ x, e = .returned (.int .i64 x) ∧ ((x = 0 ∧ S fs.length W') ∨ (x ≠ 0 ∧ T x W')) := by
  unfold Enters at hen
  have HEN := Lib.hid hen
  have HC := Lib.hid hcell
  have HD := Lib.hid hdo
  clear hen hcell hdo
  obtain ⟨n, hn⟩ : ∃ n, fs.length = n := ⟨_, rfl⟩
  have HN := Lib.hid hn
  rw [hn] at hlen ⊢
  clear hn
  go_enter Tryz.func72, Tryz.ntmps72
  go_wp2
  go_loopw [8] (fun i wr => ∃ k : Nat, k ≤ n ∧ i = .int .i64 k ∧ S k wr) (fun i _ => n - (intOf i).toNat)
  case atStart => exact ⟨0, by omega, rfl, h0⟩
  case round =>
    obtain ⟨k, hk, rfl, hs⟩ := hrel
    by_cases hlt : k < n
    · have hkl : k < fs.length := by rw [HN.out]; exact hlt
      have c0 := HC.out k wr hs k hkl
      have hgl : g < wr.heap.size := World.block_lt_of_cell? _ _ c0
      have en := HEN.out k hkl
      have cd := Lib.hid (HD.out k hkl wr hs)
      generalize fs[k] = F at c0 en cd
      obtain ⟨f, c⟩ := F
      unfold fnV at c0
      simp only at c0 en cd
      clear hs
      go_wp2_with (refine cd.out.mono ?_)
      rintro e w1 ⟨x, rfl, ⟨rfl, hs1⟩ | ⟨hx, ht⟩⟩
      · have S1 := Lib.hid hs1
        clear hs1
        go_wp2
        go_roundw
        case rel => exact ⟨k + 1, by omega, by go_num, S1.out⟩
        case measure => simp [intOf]; omega
      · have hb : (x != 0) = true := by simpa using hx
        go_wp2
        go_ret
        exact ⟨x, rfl, .inr ⟨hx, ht⟩⟩
    · obtain rfl : k = n := by omega
      go_wp2
      go_ret
      exact ⟨0, rfl, .inl ⟨rfl, hs⟩⟩

section
variable {X : Nat → Prop} {w0 w : World} {b : Nat} {d : Dsk}
theorem Install1_ok (h : HasX X w0 w b d) (p : Nat) (hp : w.cell? ⟨p, 0, none⟩ = some (.pointer (some ⟨b, 0, none⟩))) :
    Calls Tryz.prog 73 #[.pointer (some ⟨p, 0, none⟩)] w (DidX X w0 w b (d.gone nextS).1 (.int .i64 (d.gone nextS).2)) := by
  have H := Lib.hid (gone_ok h nextS)
  clear h
  generalize d.gone nextS = r0 at H ⊢
  go_enter Tryz.func73, Tryz.ntmps73
  go_wp2_with fail
  refine H.out.mono ?_
  rintro e w1 ⟨rfl, q1, q2⟩
  go_wp2
  go_ret
  exact ⟨rfl, q1, q2⟩
theorem Install2_ok (h : HasX X w0 w b d) (p q : Nat) (hp : w.cell? ⟨p, 0, none⟩ = some (.pointer (some ⟨b, 0, none⟩))) {src : Value} {l : List UInt8} (hq : w.cell? ⟨q, 0, none⟩ = some src) (hs : Bs w src l) (hX : ∀ g, src.ownBlock = some g → X g) (hl : l.length ≤ 1000000) :
    Calls Tryz.prog 75 #[.pointer (some ⟨p, 0, none⟩), .pointer (some ⟨q, 0, none⟩)] w (DidX X w0 w b (d.append nextS l).1 (.int .i64 (d.append nextS l).2)) := by
  have H := Lib.hid (h.append nextS l src hs (fun _ g hg => .inl (hX g hg)) (by decide) (by omega) (two_eta _))
  obtain ⟨xa, xc, rfl, -⟩ := hs.len
  clear h hs hX
  generalize d.append nextS l = r0 at H ⊢
  go_enter Tryz.func75, Tryz.ntmps75
  go_wp2_with fail
  refine H.out.mono ?_
  rintro e w1 ⟨rfl, q1, q2⟩
  go_wp2
  go_ret
  exact ⟨rfl, q1, q2⟩
theorem Install3_ok (h : HasX X w0 w b d) (p : Nat) (hp : w.cell? ⟨p, 0, none⟩ = some (.pointer (some ⟨b, 0, none⟩))) :
    Calls Tryz.prog 76 #[.pointer (some ⟨p, 0, none⟩)] w (DidX X w0 w b (d.sync nextS).1 (.int .i64 (d.sync nextS).2)) := by
  have H := Lib.hid (h.sync nextS (two_eta _))
  clear h
  generalize d.sync nextS = r0 at H ⊢
  go_enter Tryz.func76, Tryz.ntmps76
  go_wp2_with fail
  refine H.out.mono ?_
  rintro e w1 ⟨rfl, q1, q2⟩
  go_wp2
  go_ret
  exact ⟨rfl, q1, q2⟩
theorem Install4_ok (h : HasX X w0 w b d) (p : Nat) (hp : w.cell? ⟨p, 0, none⟩ = some (.pointer (some ⟨b, 0, none⟩))) :
    Calls Tryz.prog 78 #[.pointer (some ⟨p, 0, none⟩)] w (DidX X w0 w b (d.rename nextS manifestS).1 (.int .i64 (d.rename nextS manifestS).2)) := by
  have H := Lib.hid (h.rename nextS manifestS (by decide) (two_eta _))
  clear h
  generalize d.rename nextS manifestS = r0 at H ⊢
  go_enter Tryz.func78, Tryz.ntmps78
  go_wp2_with fail
  refine H.out.mono ?_
  rintro e w1 ⟨rfl, q1, q2⟩
  go_wp2
  go_ret
  exact ⟨rfl, q1, q2⟩
theorem begin1_ok (h : HasX X w0 w b d) (p q : Nat) (n : Str) (hp : w.cell? ⟨p, 0, none⟩ = some (.pointer (some ⟨b, 0, none⟩))) (hq : w.cell? ⟨q, 0, none⟩ = some (.string ⟨n.toArray⟩)) :
    Calls Tryz.prog 127 #[.pointer (some ⟨p, 0, none⟩), .pointer (some ⟨q, 0, none⟩)] w (DidX X w0 w b (d.gone n).1 (.int .i64 (d.gone n).2)) := by
  have H := Lib.hid (gone_ok h n)
  clear h
  generalize d.gone n = r0 at H ⊢
  go_enter Tryz.func127, Tryz.ntmps127
  go_wp2_with fail
  refine H.out.mono ?_
  rintro e w1 ⟨rfl, q1, q2⟩
  go_wp2
  go_ret
  exact ⟨rfl, q1, q2⟩
theorem begin2_ok (h : HasX X w0 w b d) (p q r : Nat) (n : Str) (hp : w.cell? ⟨p, 0, none⟩ = some (.pointer (some ⟨b, 0, none⟩))) (hq : w.cell? ⟨q, 0, none⟩ = some (.string ⟨n.toArray⟩)) (hn : n.length ≤ 9223372036854775807)
    {src : Value} {l : List UInt8} (hr : w.cell? ⟨r, 0, none⟩ = some src) (hs : Bs w src l) (hX : ∀ g, src.ownBlock = some g → X g) (hl : l.length ≤ 1000000) :
    Calls Tryz.prog 128 #[.pointer (some ⟨p, 0, none⟩), .pointer (some ⟨q, 0, none⟩), .pointer (some ⟨r, 0, none⟩)] w (DidX X w0 w b (d.append n l).1 (.int .i64 (d.append n l).2)) := by
  have H := Lib.hid (h.append n l src hs (fun _ g hg => .inl (hX g hg)) hn (by omega) (two_eta _))
  obtain ⟨xa, xc, rfl, -⟩ := hs.len
  clear h hs hX hn
  generalize d.append n l = r0 at H ⊢
  go_enter Tryz.func128, Tryz.ntmps128
  go_wp2_with fail
  refine H.out.mono ?_
  rintro e w1 ⟨rfl, q1, q2⟩
  go_wp2
  go_ret
  exact ⟨rfl, q1, q2⟩
theorem begin3_ok (h : HasX X w0 w b d) (p q : Nat) (n : Str) (hp : w.cell? ⟨p, 0, none⟩ = some (.pointer (some ⟨b, 0, none⟩))) (hq : w.cell? ⟨q, 0, none⟩ = some (.string ⟨n.toArray⟩)) :
    Calls Tryz.prog 129 #[.pointer (some ⟨p, 0, none⟩), .pointer (some ⟨q, 0, none⟩)] w (DidX X w0 w b (d.sync n).1 (.int .i64 (d.sync n).2)) := by
  have H := Lib.hid (h.sync n (two_eta _))
  clear h
  generalize d.sync n = r0 at H ⊢
  go_enter Tryz.func129, Tryz.ntmps129
  go_wp2_with fail
  refine H.out.mono ?_
  rintro e w1 ⟨rfl, q1, q2⟩
  go_wp2
  go_ret
  exact ⟨rfl, q1, q2⟩
end
end Go.Proofs.YtjapijndljknnaaGreatDoor

/-
  seglog.Install and begin, walked.
-/
namespace Go.Proofs.YtjapijndljknnaaGreatDoor
open Go Go.RowKit Go.Sort
set_option maxRecDepth 100000
set_option maxHeartbeats 1600000

theorem fresh_1 {d : Dsk} {n : Str} {m : List UInt8} (h : (d.gone n).2 ≠ 0) : d.fresh n m = d.gone n := by
  unfold Dsk.fresh andThen
  rw [if_neg h, if_neg h]
theorem fresh_2 {d : Dsk} {n : Str} {m : List UInt8} (h : (d.gone n).2 = 0) (h2 : ((d.gone n).1.append n m).2 ≠ 0) : d.fresh n m = (d.gone n).1.append n m := by
  unfold Dsk.fresh andThen
  rw [if_pos h, if_neg h2]
theorem fresh_3 {d : Dsk} {n : Str} {m : List UInt8} (h : (d.gone n).2 = 0) (h2 : ((d.gone n).1.append n m).2 = 0) : d.fresh n m = ((d.gone n).1.append n m).1.sync n := by
  unfold Dsk.fresh andThen
  rw [if_pos h, if_pos h2]
theorem install_of {d : Dsk} {l : List Pc} (hr : rightL l = true) : d.install l = andThen (d.fresh nextS (manifestB l)) (·.rename nextS manifestS) := by
  unfold Dsk.install; rw [if_pos hr]
theorem install_err {d : Dsk} {l : List Pc} (hr : rightL l = true) (h : (d.fresh nextS (manifestB l)).2 ≠ 0) : d.install l = d.fresh nextS (manifestB l) := by
  rw [install_of hr]; unfold andThen; rw [if_neg h]
theorem install_end {d : Dsk} {l : List Pc} (hr : rightL l = true) (h : (d.fresh nextS (manifestB l)).2 = 0) : d.install l = (d.fresh nextS (manifestB l)).1.rename nextS manifestS := by
  rw [install_of hr]; unfold andThen; rw [if_pos h]

section
variable {X : Nat → Prop} {w0 w : World} {b : Nat} {d : Dsk}
/-- The three steps of a new file, as a chain. -/
def Chain (Y : Nat → Prop) (w0 w4 : World) (b : Nat) (d : Dsk) (n : Str) (m : List UInt8) (i : Nat) (W : World) : Prop := Kept Y w4 W ∧
  match i with
  | 0 => HasX Y w0 W b d
  | 1 => (d.gone n).2 = 0 ∧ HasX Y w0 W b (d.gone n).1
  | 2 => (d.gone n).2 = 0 ∧ ((d.gone n).1.append n m).2 = 0 ∧ HasX Y w0 W b ((d.gone n).1.append n m).1
  | 3 => (d.fresh n m).2 = 0 ∧ HasX Y w0 W b (d.fresh n m).1
  | _ => (d.fresh n m).2 = 0 ∧ ((d.fresh n m).1.rename nextS manifestS).2 = 0 ∧ HasX Y w0 W b ((d.fresh n m).1.rename nextS manifestS).1
theorem zero_or {Y : Nat → Prop} {w0 w W : World} {b : Nat} {d' : Dsk} {x : Int} {e : Ending} {A : Prop} {B : Int → Prop} (h : DidX Y w0 w b d' (.int .i64 x) e W) (hA : x = 0 → HasX Y w0 W b d' → Kept Y w W → A) (hB : x ≠ 0 → HasX Y w0 W b d' → Kept Y w W → B x) :
    ∃ x, e = .returned (.int .i64 x) ∧ ((x = 0 ∧ A) ∨ (x ≠ 0 ∧ B x)) := by
  obtain ⟨rfl, h1, h2⟩ := h
  by_cases hx : x = 0
  · exact ⟨x, rfl, .inl ⟨hx, hA hx h1 h2⟩⟩
  · exact ⟨x, rfl, .inr ⟨hx, hB hx h1 h2⟩⟩

theorem Install_no (h : HasX X w0 w b d) {v : Value} {l : List Pc} (hv : Pcs w v l) (hr : rightL l = false) :
    Calls Tryz.prog 25 #[.pointer (some ⟨b, 0, none⟩), v] w (DidX X w0 w b (d.install l).1 (.int .i64 (d.install l).2)) := by
  have E : Hid (d.install l = (d, 14)) := Lib.hid (by unfold Dsk.install; rw [hr]; rfl)
  rw [E.out]
  have hn1 := (Nw.refl w).alloc (.cells #[.pointer (some ⟨b, 0, none⟩)] 23 (0, 0))
  have HM := Lib.hid (Manifest_no (hv.nw hn1) hr)
  obtain ⟨a, cap, rfl, -⟩ := hv.elem
  have H := Lib.hid h
  have HN1 := Lib.hid hn1
  clear h hv hn1 E
  go_enter Tryz.func25, Tryz.ntmps25
  go_wp2_with fail
  refine HM.out.mono ?_
  rintro e w2 ⟨rfl, n2⟩
  have N2 := Lib.hid (HN1.out.trans n2)
  clear n2
  go_wp2
  go_ret
  exact ⟨rfl, H.out.nw (N2.out.alloc _), (N2.out.alloc _).kept⟩

theorem Install_yes (h : HasX X w0 w b d) {v : Value} {l : List Pc} (hv : Pcs w v l) (hr : rightL l = true) :
    Calls Tryz.prog 25 #[.pointer (some ⟨b, 0, none⟩), v] w (DidX X w0 w b (d.install l).1 (.int .i64 (d.install l).2)) := by
  have hn1 := (Nw.refl w).alloc (.cells #[.pointer (some ⟨b, 0, none⟩)] 23 (0, 0))
  have hb1 := heap_alloc_new w (.cells #[.pointer (some ⟨b, 0, none⟩)] 23 (0, 0))
  have HM := Lib.hid (Manifest_ok (hv.nw hn1) hr)
  have HML := Lib.hid (manifestB_len hr)
  obtain ⟨a, cap, rfl, -⟩ := hv.elem
  have H := Lib.hid h
  have HN1 := Lib.hid hn1
  have HB1 := Lib.hid hb1
  have HR := Lib.hid hr
  obtain ⟨r, hres⟩ : ∃ r, d.install l = r := ⟨_, rfl⟩
  have E := Lib.hid hres
  rw [hres]
  obtain ⟨m, hm⟩ : ∃ m, manifestB l = m := ⟨_, rfl⟩
  have HMM := Lib.hid hm
  rw [hm] at HM HML
  clear h hv hn1 hb1 hr hres hm
  go_enter Tryz.func25, Tryz.ntmps25
  go_wp2_with fail
  refine HM.out.mono ?_
  rintro e w2 ⟨v2, rfl, q1, q2, q3⟩
  obtain ⟨xa, xc, rfl, -⟩ := q1.len
  have Q := Lib.hid (And.intro q1 (And.intro (HN1.out.trans q2) (fun g hg => Nat.le_trans HN1.out.size (q3 g hg))))
  have B2 := Lib.hid (q2.at_ HB1.out)
  clear q1 q2 q3 HM
  go_wp2_with fail
  have hw2 : w.heap.size < w2.heap.size := lt_of_block B2.out
  have n4 := ((Nw.refl w2).alloc (.cells #[.slice xa m.length xc] 35 (0, 0))).alloc (.cells #[.func (.func 73) #[] #[.pointer (some ⟨w.heap.size, 0, none⟩)], .func (.func 75) #[] #[.pointer (some ⟨w.heap.size, 0, none⟩), .pointer (some ⟨w2.heap.size, 0, none⟩)], .func (.func 76) #[] #[.pointer (some ⟨w.heap.size, 0, none⟩)], .func (.func 78) #[] #[.pointer (some ⟨w.heap.size, 0, none⟩)]] 80 (0, 0))
  have b5 : ((w2.alloc (.cells #[.slice xa m.length xc] 35 (0, 0))).alloc (.cells #[.func (.func 73) #[] #[.pointer (some ⟨w.heap.size, 0, none⟩)], .func (.func 75) #[] #[.pointer (some ⟨w.heap.size, 0, none⟩), .pointer (some ⟨w2.heap.size, 0, none⟩)], .func (.func 76) #[] #[.pointer (some ⟨w.heap.size, 0, none⟩)], .func (.func 78) #[] #[.pointer (some ⟨w.heap.size, 0, none⟩)]] 80 (0, 0))).heap[w2.heap.size]? = some (.cells #[.slice xa m.length xc] 35 (0, 0)) :=
    (heap_alloc_old _ _ (by simp)).trans (heap_alloc_new w2 _)
  have b6 := heap_alloc_new (w2.alloc (.cells #[.slice xa m.length xc] 35 (0, 0))) (.cells #[.func (.func 73) #[] #[.pointer (some ⟨w.heap.size, 0, none⟩)], .func (.func 75) #[] #[.pointer (some ⟨w.heap.size, 0, none⟩), .pointer (some ⟨w2.heap.size, 0, none⟩)], .func (.func 76) #[] #[.pointer (some ⟨w.heap.size, 0, none⟩)], .func (.func 78) #[] #[.pointer (some ⟨w.heap.size, 0, none⟩)]] 80 (0, 0))
  rw [World.size_alloc] at b6
  generalize (w2.alloc (.cells #[.slice xa m.length xc] 35 (0, 0))).alloc (.cells #[.func (.func 73) #[] #[.pointer (some ⟨w.heap.size, 0, none⟩)], .func (.func 75) #[] #[.pointer (some ⟨w.heap.size, 0, none⟩), .pointer (some ⟨w2.heap.size, 0, none⟩)], .func (.func 76) #[] #[.pointer (some ⟨w.heap.size, 0, none⟩)], .func (.func 78) #[] #[.pointer (some ⟨w.heap.size, 0, none⟩)]] 80 (0, 0)) = w4 at n4 b5 b6 ⊢
  have b4 := n4.at_ B2.out
  have hn4 : Nw w w4 := Q.out.2.1.trans n4
  have hs4 : w2.heap.size + 1 < w4.heap.size := lt_of_block b6
  obtain ⟨Y, hY⟩ : ∃ Y : Nat → Prop, Y = fun k => X k ∨ w.heap.size ≤ k ∧ k < w4.heap.size := ⟨_, rfl⟩
  have y1 : Y w.heap.size := by rw [hY]; exact .inr ⟨Nat.le_refl _, by omega⟩
  have y2 : Y w2.heap.size := by rw [hY]; exact .inr ⟨by omega, by omega⟩
  have y3 : Y (w2.heap.size + 1) := by rw [hY]; exact .inr ⟨by omega, by omega⟩
  have y4 : ∀ g, (Value.slice xa m.length xc).ownBlock = some g → Y g := fun g hg => by
    have := Q.out.1.lt g hg
    rw [hY]; exact .inr ⟨Q.out.2.2 g hg, by omega⟩
  have hx4 : HasX Y w0 w4 b d := H.out.nwY hn4 (fun k hk => by rw [hY] at hk; exact hk)
  have hXY : ∀ k, X k → Y k := fun k hk => by rw [hY]; exact .inl hk
  have cA : ∀ W, Kept Y w4 W → W.cell? ⟨w.heap.size, 0, none⟩ = some (.pointer (some ⟨b, 0, none⟩)) := fun W hk => by
    have := (hk.2 _ y1 (by omega)).trans b4
    simp [World.cell?, this]
  have cB : ∀ W, Kept Y w4 W → W.cell? ⟨w2.heap.size, 0, none⟩ = some (.slice xa m.length xc) := fun W hk => by
    have := (hk.2 _ y2 (by omega)).trans b5
    simp [World.cell?, this]
  have cR : ∀ W, Kept Y w4 W → W.heap[w2.heap.size + 1]? = _ := fun W hk => (hk.2 _ y3 hs4).trans b6
  have hbs : ∀ W, Kept Y w4 W → Bs W (.slice xa m.length xc) m := fun W hk => ((Q.out.1.nw n4).rd).kept hk (fun _ g hg => y4 g hg)
  have hrl : rightL l = true := HR.out
  have hmm : manifestB l = m := HMM.out
  have hST := steps_ok (w := w4) [(73, #[.pointer (some ⟨w.heap.size, 0, none⟩)]), (75, #[.pointer (some ⟨w.heap.size, 0, none⟩), .pointer (some ⟨w2.heap.size, 0, none⟩)]), (76, #[.pointer (some ⟨w.heap.size, 0, none⟩)]), (78, #[.pointer (some ⟨w.heap.size, 0, none⟩)])]
    (Chain Y w0 w4 b d nextS m) (fun x W => Kept Y w4 W ∧ HasX Y w0 W b r.1 ∧ x = r.2) (w2.heap.size + 1) 0 4 (by simp)
    (fun i hi => by
      have : i = 0 ∨ i = 1 ∨ i = 2 ∨ i = 3 := by simp at hi; omega
      rcases this with rfl | rfl | rfl | rfl
      · exact enters_of Tryz.func73 (by kernel_rfl) (by kernel_rfl)
      · exact enters_of Tryz.func75 (by kernel_rfl) (by kernel_rfl)
      · exact enters_of Tryz.func76 (by kernel_rfl) (by kernel_rfl)
      · exact enters_of Tryz.func78 (by kernel_rfl) (by kernel_rfl))
    (fun i W hS j hj => by
      have hb := cR W hS.1
      have : j = 0 ∨ j = 1 ∨ j = 2 ∨ j = 3 := by simp at hj; omega
      rcases this with rfl | rfl | rfl | rfl <;> simp [World.cell?, hb, fnV])
    (fun i hi W hS => by
      have hk := hS.1
      have : i = 0 ∨ i = 1 ∨ i = 2 ∨ i = 3 := by simp at hi; omega
      rcases this with rfl | rfl | rfl | rfl
      · refine (Install1_ok hS.2 w.heap.size (cA W hk)).mono fun e W' hd => zero_or hd (fun z hx hkk => ⟨hk.trans hkk, z, hx⟩) (fun z hx hkk => ⟨hk.trans hkk, ?_⟩)
        rw [← E.out, install_err hrl (by rw [fresh_1 z]; exact z), fresh_1 z]
        exact ⟨hx, rfl⟩
      · obtain ⟨z1, hx1⟩ := hS.2
        refine (Install2_ok hx1 w.heap.size w2.heap.size (cA W hk) (cB W hk) (hbs W hk) y4 (by have := HML.out; omega)).mono fun e W' hd => zero_or hd (fun z hx hkk => ⟨hk.trans hkk, z1, z, hx⟩) (fun z hx hkk => ⟨hk.trans hkk, ?_⟩)
        rw [← E.out, install_err hrl (by rw [hmm, fresh_2 z1 z]; exact z), hmm, fresh_2 z1 z]
        exact ⟨hx, rfl⟩
      · obtain ⟨z1, z2, hx1⟩ := hS.2
        refine (Install3_ok hx1 w.heap.size (cA W hk)).mono fun e W' hd => zero_or hd (fun z hx hkk => ⟨hk.trans hkk, by rw [fresh_3 z1 z2]; exact ⟨z, hx⟩⟩) (fun z hx hkk => ⟨hk.trans hkk, ?_⟩)
        rw [← E.out, install_err hrl (by rw [hmm, fresh_3 z1 z2]; exact z), hmm, fresh_3 z1 z2]
        exact ⟨hx, rfl⟩
      · obtain ⟨z1, hx1⟩ := hS.2
        refine (Install4_ok hx1 w.heap.size (cA W hk)).mono fun e W' hd => zero_or hd (fun z hx hkk => ⟨hk.trans hkk, z1, z, hx⟩) (fun z hx hkk => ⟨hk.trans hkk, ?_⟩)
        rw [← E.out, install_end hrl (by rw [hmm]; exact z1), hmm]
        exact ⟨hx, rfl⟩)
    ⟨Kept.refl w4, hx4⟩
  have hend : ∀ x W, ((x = 0 ∧ Chain Y w0 w4 b d nextS m 4 W) ∨ (x ≠ 0 ∧ (Kept Y w4 W ∧ HasX Y w0 W b r.1 ∧ x = r.2))) → x = r.2 ∧ HasX X w0 W b r.1 ∧ Kept X w W := fun x W hc => by
    rcases hc with ⟨rfl, hk, z1, z2, hx⟩ | ⟨hx, hk, hh, rfl⟩
    · have e : d.install l = (d.fresh nextS m).1.rename nextS manifestS := by rw [install_end hrl (by rw [hmm]; exact z1), hmm]
      rw [E.out] at e
      rw [e]
      exact ⟨z2.symm, hx.weak hXY, hn4.kept.trans (hk.weak hXY)⟩
    · exact ⟨rfl, hh.weak hXY, hn4.kept.trans (hk.weak hXY)⟩
  have HEND := Lib.hid hend
  have HST := Lib.hid hST
  clear hend hST cA cB cR hbs hx4 hXY y1 y2 y3 y4 hY b4 b5 b6 n4 hrl hmm hs4 hw2
  refine HST.out.mono ?_
  rintro e w5 ⟨x, rfl, hc⟩
  obtain ⟨e1, e2, e3⟩ := HEND.out x w5 hc
  have Z := Lib.hid (And.intro e2 e3)
  clear hc e2 e3 HST HEND
  subst e1
  go_wp2
  go_ret
  exact ⟨rfl, Z.out.1, Z.out.2⟩
theorem Install_ok (h : HasX X w0 w b d) {v : Value} {l : List Pc} (hv : Pcs w v l) :
    Calls Tryz.prog 25 #[.pointer (some ⟨b, 0, none⟩), v] w (DidX X w0 w b (d.install l).1 (.int .i64 (d.install l).2)) := by
  cases hr : rightL l
  · exact Install_no h hv hr
  · exact Install_yes h hv hr
end
end Go.Proofs.YtjapijndljknnaaGreatDoor

/-
  seglog.begin, walked.
-/
namespace Go.Proofs.YtjapijndljknnaaGreatDoor
open Go Go.RowKit Go.Sort
set_option maxRecDepth 100000
set_option maxHeartbeats 1600000

/-- The library's table of powers, as its initialiser laid it. -/
def Tab (w : World) : Prop := Lib.TabIs Tryz.prog w "internal/strconv.uint64pow10" .u64 Lib.pow10Tab
theorem Tab.nw {w w' : World} (h : Tab w) (hw : Nw w w') : Tab w' := Lib.tabBelow_of_tabIs h w' hw.below
theorem Itoa_ok (n : Nat) (hn : n ≤ 9223372036854775807) {w : World} (ht : Tab w) :
    Calls Tryz.prog 93 #[.int .i64 n] w fun e w' => e = .returned (.string ⟨(Lib.decDigits n).toArray⟩) ∧ Nw w w' := by
  refine (Tryz.strconv_Itoa n (by omega) (by omega) w ht).mono ?_
  rintro e w' ⟨rfl, k, os, rfl⟩
  exact ⟨by rw [Lib.itoa_nonneg], Nw.of_below (Lib.below_grow w.heap.size w (Nat.le_refl _) k os)⟩
theorem seg_cat (n : Nat) : (⟨#[115]⟩ ++ ⟨(Lib.decDigits n).toArray⟩ : ByteArray) = ⟨(segName n).toArray⟩ := ByteArray.mk_append_mk [115] (Lib.decDigits n)
section
variable {X : Nat → Prop} {w0 w : World} {b : Nat} {d : Dsk}
def Begun (X : Nat → Prop) (w0 w : World) (b : Nat) (d : Dsk) (n : Nat) (e : Ending) (w' : World) : Prop :=
  e = .returned (.tuple #[.string ⟨(segName n).toArray⟩, .int .i64 (headB n).length, .int .i64 (d.begun n).2]) ∧ HasX X w0 w' b (d.begun n).1 ∧ Kept X w w'
theorem begin_ok (h : HasX X w0 w b d) (n : Nat) (hn : n ≤ 4611686018427387904) (ht : Tab w) :
    Calls Tryz.prog 81 #[.pointer (some ⟨b, 0, none⟩), .int .i64 n] w (Begun X w0 w b d n) := by
  have hn1 := (Nw.refl w).alloc (.cells #[.pointer (some ⟨b, 0, none⟩)] 23 (0, 0))
  have hb1 := heap_alloc_new w (.cells #[.pointer (some ⟨b, 0, none⟩)] 23 (0, 0))
  have HI := Lib.hid (Itoa_ok n (by omega) (ht.nw hn1))
  have H := Lib.hid h
  have HN1 := Lib.hid hn1
  have HB1 := Lib.hid hb1
  clear h hn1 hb1
  go_enter Tryz.func81, Tryz.ntmps81
  have hcat := seg_cat n
  have hdl : (Lib.decDigits n).length ≤ 20 := by rw [Lib.decDigits_length]; exact Lib.nDigits_le20 n (by omega)
  go_wp2_with fail
  refine HI.out.mono ?_
  rintro e w2 ⟨rfl, n2⟩
  have N2 := Lib.hid (HN1.out.trans n2)
  have B2 := Lib.hid (n2.at_ HB1.out)
  have HSL : Hid ((segName n).length ≤ 9223372036854775807) := Lib.hid (by
    have := Lib.decDigits_length n
    have := Lib.nDigits_le20 n (by omega)
    simp only [segName, List.length_cons]; omega)
  clear n2 HI
  have HBG : Hid (∀ r : Dsk × Int, d.begun n = r → True) := Lib.hid (fun _ _ => trivial)
  obtain ⟨r, hres⟩ : ∃ r, d.begun n = r := ⟨_, rfl⟩
  have E := Lib.hid hres
  clear hres HBG
  obtain ⟨sn, hsn⟩ : ∃ sn, segName n = sn := ⟨_, rfl⟩
  rw [hsn] at hcat HSL
  have ES := Lib.hid hsn
  clear hsn
  have HCAT := Lib.hid hcat
  clear hcat
  go_wp2_with fail
  simp only [HCAT.out]
  refine (Head_ok n hn _).mono ?_
  rintro e w3 ⟨v3, rfl, q1, q2, q3⟩
  have HHL : Hid ((headB n).length ≤ 18) := Lib.hid (headB_len (by omega))
  obtain ⟨m, hm⟩ : ∃ m, headB n = m := ⟨_, rfl⟩
  rw [hm] at q1 HHL
  have EM := Lib.hid hm
  clear hm hdl
  obtain ⟨xa, xc, rfl, -⟩ := q1.len
  have n23 : Nw w2 w3 := ((Nw.refl w2).alloc (.cells #[.string ⟨sn.toArray⟩] 9 (0, 0))).trans q2
  have B7 := Lib.hid (q2.at_ (heap_alloc_new w2 (.cells #[.string ⟨sn.toArray⟩] 9 (0, 0))))
  have Q := Lib.hid (And.intro q1 (And.intro (N2.out.trans n23) (fun g hg => by
    have h1 := q3 g hg
    have h2 := N2.out.size
    simp only [World.size_alloc] at h1
    show w.heap.size ≤ g
    omega)))
  have B3 := Lib.hid (n23.at_ B2.out)
  clear q1 q2 q3 n23
  go_wp2_with fail
  have hw3 : w2.heap.size < w3.heap.size := lt_of_block B7.out
  have hw2 : w.heap.size < w2.heap.size := lt_of_block B2.out
  have n4 := ((Nw.refl w3).alloc (.cells #[.slice xa m.length xc] 35 (0, 0))).alloc (.cells #[.func (.func 127) #[] #[.pointer (some ⟨w.heap.size, 0, none⟩), .pointer (some ⟨w2.heap.size, 0, none⟩)], .func (.func 128) #[] #[.pointer (some ⟨w.heap.size, 0, none⟩), .pointer (some ⟨w2.heap.size, 0, none⟩), .pointer (some ⟨w3.heap.size, 0, none⟩)], .func (.func 129) #[] #[.pointer (some ⟨w.heap.size, 0, none⟩), .pointer (some ⟨w2.heap.size, 0, none⟩)]] 80 (0, 0))
  have b5 : ((w3.alloc (.cells #[.slice xa m.length xc] 35 (0, 0))).alloc (.cells #[.func (.func 127) #[] #[.pointer (some ⟨w.heap.size, 0, none⟩), .pointer (some ⟨w2.heap.size, 0, none⟩)], .func (.func 128) #[] #[.pointer (some ⟨w.heap.size, 0, none⟩), .pointer (some ⟨w2.heap.size, 0, none⟩), .pointer (some ⟨w3.heap.size, 0, none⟩)], .func (.func 129) #[] #[.pointer (some ⟨w.heap.size, 0, none⟩), .pointer (some ⟨w2.heap.size, 0, none⟩)]] 80 (0, 0))).heap[w3.heap.size]? = some (.cells #[.slice xa m.length xc] 35 (0, 0)) :=
    (heap_alloc_old _ _ (by simp)).trans (heap_alloc_new w3 _)
  have b6 := heap_alloc_new (w3.alloc (.cells #[.slice xa m.length xc] 35 (0, 0))) (.cells #[.func (.func 127) #[] #[.pointer (some ⟨w.heap.size, 0, none⟩), .pointer (some ⟨w2.heap.size, 0, none⟩)], .func (.func 128) #[] #[.pointer (some ⟨w.heap.size, 0, none⟩), .pointer (some ⟨w2.heap.size, 0, none⟩), .pointer (some ⟨w3.heap.size, 0, none⟩)], .func (.func 129) #[] #[.pointer (some ⟨w.heap.size, 0, none⟩), .pointer (some ⟨w2.heap.size, 0, none⟩)]] 80 (0, 0))
  rw [World.size_alloc] at b6
  generalize (w3.alloc (.cells #[.slice xa m.length xc] 35 (0, 0))).alloc (.cells #[.func (.func 127) #[] #[.pointer (some ⟨w.heap.size, 0, none⟩), .pointer (some ⟨w2.heap.size, 0, none⟩)], .func (.func 128) #[] #[.pointer (some ⟨w.heap.size, 0, none⟩), .pointer (some ⟨w2.heap.size, 0, none⟩), .pointer (some ⟨w3.heap.size, 0, none⟩)], .func (.func 129) #[] #[.pointer (some ⟨w.heap.size, 0, none⟩), .pointer (some ⟨w2.heap.size, 0, none⟩)]] 80 (0, 0)) = w4 at n4 b5 b6 ⊢
  have b4 := n4.at_ B3.out
  have b7 := n4.at_ B7.out
  have hn4 : Nw w w4 := Q.out.2.1.trans n4
  have hs4 : w3.heap.size + 1 < w4.heap.size := lt_of_block b6
  obtain ⟨Y, hY⟩ : ∃ Y : Nat → Prop, Y = fun k => X k ∨ w.heap.size ≤ k ∧ k < w4.heap.size := ⟨_, rfl⟩
  have y1 : Y w.heap.size := by rw [hY]; exact .inr ⟨Nat.le_refl _, by omega⟩
  have y2 : Y w2.heap.size := by rw [hY]; exact .inr ⟨by omega, by omega⟩
  have y5 : Y w3.heap.size := by rw [hY]; exact .inr ⟨by omega, by omega⟩
  have y3 : Y (w3.heap.size + 1) := by rw [hY]; exact .inr ⟨by omega, by omega⟩
  have y4 : ∀ g, (Value.slice xa m.length xc).ownBlock = some g → Y g := fun g hg => by
    have := Q.out.1.lt g hg
    rw [hY]; exact .inr ⟨Q.out.2.2 g hg, by omega⟩
  have hx4 : HasX Y w0 w4 b d := H.out.nwY hn4 (fun k hk => by rw [hY] at hk; exact hk)
  have hXY : ∀ k, X k → Y k := fun k hk => by rw [hY]; exact .inl hk
  have cA : ∀ W, Kept Y w4 W → W.cell? ⟨w.heap.size, 0, none⟩ = some (.pointer (some ⟨b, 0, none⟩)) := fun W hk => by
    have := (hk.2 _ y1 (by omega)).trans b4
    simp [World.cell?, this]
  have cN : ∀ W, Kept Y w4 W → W.cell? ⟨w2.heap.size, 0, none⟩ = some (.string ⟨sn.toArray⟩) := fun W hk => by
    have := (hk.2 _ y2 (by omega)).trans b7
    simp [World.cell?, this]
  have cB : ∀ W, Kept Y w4 W → W.cell? ⟨w3.heap.size, 0, none⟩ = some (.slice xa m.length xc) := fun W hk => by
    have := (hk.2 _ y5 (by omega)).trans b5
    simp [World.cell?, this]
  have cR : ∀ W, Kept Y w4 W → W.heap[w3.heap.size + 1]? = _ := fun W hk => (hk.2 _ y3 hs4).trans b6
  have hbs : ∀ W, Kept Y w4 W → Bs W (.slice xa m.length xc) m := fun W hk => ((Q.out.1.nw n4).rd).kept hk (fun _ g hg => y4 g hg)
  have hr : r = d.fresh sn m := by rw [← E.out, ← ES.out, ← EM.out]; rfl
  have hST := steps_ok (w := w4) [(127, #[.pointer (some ⟨w.heap.size, 0, none⟩), .pointer (some ⟨w2.heap.size, 0, none⟩)]), (128, #[.pointer (some ⟨w.heap.size, 0, none⟩), .pointer (some ⟨w2.heap.size, 0, none⟩), .pointer (some ⟨w3.heap.size, 0, none⟩)]), (129, #[.pointer (some ⟨w.heap.size, 0, none⟩), .pointer (some ⟨w2.heap.size, 0, none⟩)])]
    (Chain Y w0 w4 b d sn m) (fun x W => Kept Y w4 W ∧ HasX Y w0 W b r.1 ∧ x = r.2) (w3.heap.size + 1) 0 3 (by simp)
    (fun i hi => by
      have : i = 0 ∨ i = 1 ∨ i = 2 := by simp at hi; omega
      rcases this with rfl | rfl | rfl
      · exact enters_of Tryz.func127 (by kernel_rfl) (by kernel_rfl)
      · exact enters_of Tryz.func128 (by kernel_rfl) (by kernel_rfl)
      · exact enters_of Tryz.func129 (by kernel_rfl) (by kernel_rfl))
    (fun i W hS j hj => by
      have hb := cR W hS.1
      have : j = 0 ∨ j = 1 ∨ j = 2 := by simp at hj; omega
      rcases this with rfl | rfl | rfl <;> simp [World.cell?, hb, fnV])
    (fun i hi W hS => by
      have hk := hS.1
      have : i = 0 ∨ i = 1 ∨ i = 2 := by simp at hi; omega
      rcases this with rfl | rfl | rfl
      · refine (begin1_ok hS.2 w.heap.size w2.heap.size sn (cA W hk) (cN W hk)).mono fun e W' hd => zero_or hd (fun z hx hkk => ⟨hk.trans hkk, z, hx⟩) (fun z hx hkk => ⟨hk.trans hkk, ?_⟩)
        rw [hr, fresh_1 z]
        exact ⟨hx, rfl⟩
      · obtain ⟨z1, hx1⟩ := hS.2
        refine (begin2_ok hx1 w.heap.size w2.heap.size w3.heap.size sn (cA W hk) (cN W hk) HSL.out (cB W hk) (hbs W hk) y4 (by have := HHL.out; omega)).mono fun e W' hd => zero_or hd (fun z hx hkk => ⟨hk.trans hkk, z1, z, hx⟩) (fun z hx hkk => ⟨hk.trans hkk, ?_⟩)
        rw [hr, fresh_2 z1 z]
        exact ⟨hx, rfl⟩
      · obtain ⟨z1, z2, hx1⟩ := hS.2
        refine (begin3_ok hx1 w.heap.size w2.heap.size sn (cA W hk) (cN W hk)).mono fun e W' hd => zero_or hd (fun z hx hkk => ⟨hk.trans hkk, by rw [fresh_3 z1 z2]; exact ⟨z, hx⟩⟩) (fun z hx hkk => ⟨hk.trans hkk, ?_⟩)
        rw [hr, fresh_3 z1 z2]
        exact ⟨hx, rfl⟩)
    ⟨Kept.refl w4, hx4⟩
  have hend : ∀ x W, ((x = 0 ∧ Chain Y w0 w4 b d sn m 3 W) ∨ (x ≠ 0 ∧ (Kept Y w4 W ∧ HasX Y w0 W b r.1 ∧ x = r.2))) → x = r.2 ∧ HasX X w0 W b r.1 ∧ Kept X w W ∧ W.cell? ⟨w2.heap.size, 0, none⟩ = some (.string ⟨sn.toArray⟩) ∧ W.cell? ⟨w3.heap.size, 0, none⟩ = some (.slice xa m.length xc) := fun x W hc => by
    rcases hc with ⟨rfl, hk, z1, hx⟩ | ⟨hx, hk, hh, rfl⟩
    · rw [hr]
      exact ⟨z1.symm, hx.weak hXY, hn4.kept.trans (hk.weak hXY), cN W hk, cB W hk⟩
    · exact ⟨rfl, hh.weak hXY, hn4.kept.trans (hk.weak hXY), cN W hk, cB W hk⟩
  have HEND := Lib.hid hend
  have HST := Lib.hid hST
  clear hend hST cA cB cN cR hbs hx4 hXY y1 y2 y3 y4 y5 hY b4 b5 b6 b7 n4 hs4 hw2 hw3 hr
  refine HST.out.mono ?_
  rintro e w5 ⟨x, rfl, hc⟩
  obtain ⟨e1, e2, e3, c1, c2⟩ := HEND.out x w5 hc
  have Z := Lib.hid (And.intro e2 e3)
  clear hc e2 e3 HST HEND
  subst e1
  go_upto_region 5 with fail
  have g1 := cellG c1
  have g2 := cellG c2
  refine wp_region_quiet_below (by kernel_rfl) (by kernel_rfl) ?_
  repeat (first | go_big_quiet_step (fail) | quiet_step (fail))
  refine wpQuiet_nil ?_
  intro w6 hw6
  have N6 := Lib.hid (Nw.of_regrown hw6)
  clear hw6 g1 g2 c1 c2
  go_wp2
  refine bodyPost_ret (v := .tuple #[.string ⟨sn.toArray⟩, .int .i64 m.length, .int .i64 r.2]) (by simp [results, Tryz.results81, go_sem]) rfl ?_
  unfold Begun
  rw [E.out, ES.out, EM.out]
  exact ⟨rfl, Z.out.1.nw N6.out, Z.out.2.trans N6.out.kept⟩
end
end Go.Proofs.YtjapijndljknnaaGreatDoor
