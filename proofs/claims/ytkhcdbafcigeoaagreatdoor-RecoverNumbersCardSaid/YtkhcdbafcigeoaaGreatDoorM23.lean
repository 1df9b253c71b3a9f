/-
  Texts merged by a program of this claim's: Ref02E, Ref02F, Ref02G.
-/
import Derived.Test.YtkhcdbafcigeoaaGreatDoorM21
import Derived.Test.YtkhcdbafcigeoaaGreatDoorM22
import Derived.Test.YtkhcdbafcigeoaaGreatDoorM10
namespace Go.Proofs.YtkhcdbafcigeoaaGreatDoor
open Go Go.RowKit Go.Sort
set_option maxRecDepth 100000
set_option maxHeartbeats 3200000
section
variable {X : Nat → Prop}


theorem rCut_ok {w : World} {v : Value} {r : Dsk} (hX : ∀ k, w.heap.size ≤ k → X k) (h : RefD X w v r) (hk : ROk r) (n : Str) (kz : Int) : Calls Tryz.prog 99 #[v, .string ⟨n.toArray⟩, .int .i64 kz] w fun e w' =>
    ∃ v', e = .returned (.tuple #[v', .int .i64 (r.rCut n kz).2]) ∧ RefD X w' v' (r.rCut n kz).1 ∧ Nw w w' := by
  have HX := Lib.hid hX
  clear hX
  have HR := Lib.hid h
  obtain ⟨sv, rfl, hFL⟩ := h
  obtain ⟨a, cap, rfl, h1, h2, hel⟩ := hFL.elem
  obtain ⟨most, L, left, down⟩ := r
  obtain ⟨few, used, most0, most1, arm0, arm1⟩ := hk
  simp only at h1 h2 HR few used most0 most1 arm0 arm1 hel
  have HFL := Lib.hid hFL
  have HE := Lib.hid hel
  simp only at HFL
  clear hFL hel
  unfold maxLen at h2
  cases down
  case true =>
    have r : Hid (Dsk.rCut ⟨most, L, left, true⟩ n kz = (⟨most, L, left, true⟩, 15)) := Lib.hid (by simp [Dsk.rCut, Dsk.op])
    rw [r.out]
    go_enter Tryz.func99, Tryz.ntmps99
    go_wp2
    refine bodyPost_ret (v := .tuple #[.agg #[.int .i64 most, .slice a L.length cap, .int .i64 left, .bool true], .int .i64 15]) (by simp [results, Tryz.results99, go_sem]) rfl ?_
    have hN := ((Nw.refl w).alloc (DB (.int .i64 most) (.slice a L.length cap) (.int .i64 left) (.bool true))).alloc (DB (.int .i64 most) (.slice a L.length cap) (.int .i64 left) (.bool true))
    exact ⟨_, rfl, ⟨_, rfl, HFL.out.nw hN⟩, hN⟩
  case false =>
    have TB := two_boxes w #[.int .i64 most, .slice a L.length cap, .int .i64 left, .bool false] #[.int .i64 0, .slice none 0 0, .int .i64 0, .bool false] 43 43
    go_enter Tryz.func99, Tryz.ntmps99
    go_wp2_with fail
    generalize (w.alloc (.cells #[.int .i64 most, .slice a L.length cap, .int .i64 left, .bool false] 43)).alloc (.cells #[.int .i64 0, .slice none 0 0, .int .i64 0, .bool false] 43) = W0 at TB ⊢
    obtain ⟨t1, t2, t3, t4⟩ := TB
    have T1 := Lib.hid t1
    have T2 := Lib.hid t2
    have T3 := Lib.hid t3
    have T4 := Lib.hid t4
    clear t1 t2 t3 t4
    refine (rFind_ok (HR.out.nw T1.out) n).mono ?_
    rintro e w1 ⟨rfl, n1⟩
    have N1 := Lib.hid (T1.out.trans n1)
    have B1 := Lib.hid (n1.at_ T2.out)
    have Q1 := Lib.hid (n1.at_ T3.out)
    have hs1 : w.heap.size + 1 < w1.heap.size := by have := n1.size; have := T4.out; omega
    obtain ⟨b0, b1, b2, b3, bf0, bf1, bf2, bf3⟩ := box_cells B1.out
    obtain ⟨r0, r1, r2, r3, rf0, rf1, rf2, rf3⟩ := box_cells Q1.out
    simp only
    clear n1
    by_cases hn : n ∈ namesF L
    case neg =>
      have r : Hid (Dsk.rCut ⟨most, L, left, false⟩ n kz = (⟨most, L, left, false⟩, 13)) := Lib.hid (by simp [Dsk.rCut, Dsk.op, Dsk.mayCut, (getF_none _ _).2 hn])
      rw [rfind_no hn]
      clear hn
      go_wp2
      refine bodyPost_ret (v := .tuple #[.agg #[.int .i64 most, .slice a L.length cap, .int .i64 left, .bool false], .int .i64 13]) (by simp [results, Tryz.results99, go_sem, r0, r1, r2, r3]) rfl ?_
      have hN := N1.out.trans' (only_set4q w1 (w.heap.size + 1) (.int .i64 most) (.slice a L.length cap) (.int .i64 left) (.bool false)) (fun k hk e => by omega)
      rw [r.out]
      exact ⟨_, rfl, ⟨_, rfl, HFL.out.nw hN⟩, hN⟩
    case pos =>
      obtain ⟨k, hk, hfi, hkn, hfo⟩ := rfind_mem hn
      obtain ⟨g, o, b, rfl, e0, e1, e2, hb⟩ := HE.out k hk
      obtain ⟨xa, xc, rfl, hxl, -⟩ := hb.1.elems
      have c0 := N1.out.cell e0
      have c1 := N1.out.cell e1
      have c2 := N1.out.cell e2
      have HBX := Lib.hid hb.1
      have HXL := Lib.hid hxl
      have hul := rfile_le L n
      rw [hfo] at hul
      rw [hkn] at c0
      have HACT : Hid (L[k].2 = fileOf L n) := Lib.hid hfo.symm
      have hmay : Dsk.mayCut ⟨most, L, left, false⟩ n kz = if kz < 0 ∨ (L[k].2.bytes.length : Int) < kz then 2 else 0 := by
        unfold Dsk.mayCut
        rw [← hfo]
        unfold fileOf
        cases hg : getF L n with
        | none => exact absurd hn ((getF_none _ _).1 hg)
        | some f => rfl
      have HMAY := Lib.hid hmay
      clear hb e0 e1 e2 hkn hfo hxl hmay
      generalize L[k] = x at *
      obtain ⟨x1, x2, x3⟩ := x
      simp only at c1 c2 hul HACT HBX HXL HMAY
      have hks : (k : Int) ≤ (L.length : Int) := by omega
      by_cases hbad : kz < 0 ∨ (x2.length : Int) < kz
      · have hm := HMAY.out
        rw [if_pos hbad] at hm
        have r : Hid (Dsk.rCut ⟨most, L, left, false⟩ n kz = (⟨most, L, left, false⟩, 2)) := Lib.hid (by simp [Dsk.rCut, Dsk.op, hm])
        clear hm
        rw [hfi]
        clear hfi hn
        have NA : Hid (Nw w1 (w1.alloc (.cells #[.string ⟨n.toArray⟩, .slice xa x2.length xc, .int .i64 x3] 143))) := Lib.hid ((Nw.refl w1).alloc _)
        have hneq : ¬ w.heap.size + 1 = w1.heap.size := by omega
        have hneq0 : ¬ w.heap.size = w1.heap.size := by omega
        have hltp : w.heap.size < w1.heap.size := by omega
        have hc : kz < 0 ∨ (0 ≤ kz ∧ (x2.length : Int) < kz) := by omega
        clear hbad
        rcases hc with hc | ⟨hc, hc'⟩
        all_goals
          go_wp2
          refine bodyPost_ret (v := .tuple #[.agg #[.int .i64 most, .slice (some ⟨g, o, none⟩) L.length cap, .int .i64 left, .bool false], .int .i64 2]) (by simp [results, Tryz.results99, go_sem, r0, r1, r2, r3, hneq, hneq0, hltp, hs1]) rfl ?_
          have hN := (N1.out.trans' (only_set4q w1 (w.heap.size + 1) (.int .i64 most) (.slice (some ⟨g, o, none⟩) L.length cap) (.int .i64 left) (.bool false)) (fun k hk e => by omega)).alloc (.cells #[.string ⟨n.toArray⟩, .slice xa x2.length xc, .int .i64 x3] 143)
          rw [r.out]
          exact ⟨_, rfl, ⟨_, rfl, HFL.out.nw hN⟩, hN⟩
      obtain ⟨kn, rfl⟩ := Int.eq_ofNat_of_zero_le (show 0 ≤ kz by omega)
      have hkl : kn ≤ x2.length := by omega
      have hm := HMAY.out
      rw [if_neg hbad] at hm
      have HM := Lib.hid hm
      obtain ⟨pf, hpf⟩ : ∃ pf, pf = w1.heap.size := ⟨_, rfl⟩
      have hpf1 : w.heap.size + 1 < pf := by omega
      have hneq0 : ¬ w.heap.size = w1.heap.size := by omega
      have hltp : w.heap.size < w1.heap.size := by omega
      have gk : decide ((kn : Int) < 0) = false := by simp
      have gl : decide ((x2.length : Int) < (kn : Int)) = false := by simp; omega
      have gl2 : decide (x2.length < kn) = false := by simp; omega
      clear hbad hm
      have HN := Lib.hid hn
      rw [hfi]
      clear hfi hn
      go_wp2_with fail
      have hnew := heap_alloc_new w1 (.cells #[.string ⟨n.toArray⟩, .slice xa x2.length xc, .int .i64 x3] 143)
      have NA : Nw w1 (w1.alloc (.cells #[.string ⟨n.toArray⟩, .slice xa x2.length xc, .int .i64 x3] 143)) := (Nw.refl w1).alloc _
      rw [← hpf] at hnew
      simp only [← hpf]
      generalize w1.alloc (.cells #[.string ⟨n.toArray⟩, .slice xa x2.length xc, .int .i64 x3] 143) = wa at hnew NA ⊢
      have F1 := Lib.hid hnew
      have N1 := Lib.hid (N1.out.trans NA)
      have B1 := Lib.hid (NA.at_ B1.out)
      have Q1 := Lib.hid (NA.at_ Q1.out)
      have hs1 : w.heap.size + 1 < wa.heap.size := by have := NA.size; omega
      have hpf2 : pf < wa.heap.size := lt_of_block hnew
      clear hnew NA gk gl gl2 c0 c1 c2 hneq0 hltp hpf
      refine (opn_ok _ most left (some ⟨g, o, none⟩) L.length cap false arm0 arm1).mono ?_
      rintro e w2 ⟨n2, he⟩
      have N2 := Lib.hid (N1.out.trans n2)
      have B2 := Lib.hid (n2.at_ B1.out)
      have Q2 := Lib.hid (n2.at_ Q1.out)
      have F2 := Lib.hid (n2.at_ F1.out)
      have hs2 : w.heap.size + 1 < w2.heap.size := by have := n2.size; omega
      clear b0 b1 b2 b3 bf0 bf1 bf2 bf3 r0 r1 r2 r3 rf0 rf1 rf2 rf3 n2
      obtain ⟨b0, b1, b2, b3, bf0, bf1, bf2, bf3⟩ := box_cells B2.out
      obtain ⟨r0, r1, r2, r3, rf0, rf1, rf2, rf3⟩ := box_cells Q2.out
      by_cases hz : left = 0
      · have r : Hid (Dsk.rCut ⟨most, L, left, false⟩ n kn = (⟨most, L, -1, true⟩, 15)) := Lib.hid (by have hm := HM.out; rw [hz] at hm; simp [Dsk.rCut, Dsk.op, hm, hz])
        rw [if_pos hz] at he
        subst he
        clear hz
        go_wp2
        refine bodyPost_ret (v := .tuple #[.agg #[.int .i64 most, .slice (some ⟨g, o, none⟩) L.length cap, .int .i64 (-1), .bool true], .int .i64 15]) (by simp [results, Tryz.results99, go_sem, r0, r1, r2, r3]) rfl ?_
        have hN := (N2.out.trans' (only_set4 w2 w.heap.size (.int .i64 most) (.slice (some ⟨g, o, none⟩) L.length cap) (.int .i64 (-1)) (.bool true)) (fun k hk e => by omega)).trans' (only_set4q _ (w.heap.size + 1) (.int .i64 most) (.slice (some ⟨g, o, none⟩) L.length cap) (.int .i64 (-1)) (.bool true)) (fun k hk e => by omega)
        rw [r.out]
        exact ⟨_, rfl, ⟨_, rfl, HFL.out.nw hN⟩, hN⟩
      · rw [if_neg hz] at he
        subst he
        obtain ⟨f0, f1, f2, ff0, ff1, ff2⟩ := box_cells3 F2.out
        have hb3 := HBX.out
        have hkt : kn ≤ x2.length := by omega
        have R9 := hb3.take hkt
        have hxl := HXL.out
        have hsl : ∀ w, (Instr.slice 23 (.slice xa x2.length xc) none (some (.int .i64 kn)) none).run Tryz.prog w = .ok (sliced xa 0 kn xc 1) w := fun w => by
          have h1 : (kn : Int) ≤ (xc : Int) := by omega
          have h2 : (0 : Int) ≤ (kn : Int) := by omega
          go_simp
        generalize sliced xa 0 kn xc 1 = s9 at R9 hsl
        have R9 := Lib.hid R9
        clear hb3
        have hne1 : ¬ w.heap.size = pf := by omega
        have hne2 : ¬ pf = w.heap.size := by omega
        go_wp2_with fail
        generalize hW3 : (((w2.setCell ⟨w.heap.size, 0, none⟩ (.int .i64 most)).setCell ⟨w.heap.size, 1, none⟩ (.slice (some ⟨g, o, none⟩) L.length cap)).setCell ⟨w.heap.size, 2, none⟩ (.int .i64 (max (left - 1) (-1)))).setCell ⟨w.heap.size, 3, none⟩ (.bool false) = W3
        have HO3 : Hid (Only (fun k => k = w.heap.size) w2 W3) := Lib.hid (hW3 ▸ only_set4 w2 w.heap.size _ _ _ _)
        have B3 : Hid (W3.heap[w.heap.size]? = some (DB (.int .i64 most) (.slice (some ⟨g, o, none⟩) L.length cap) (.int .i64 (max (left - 1) (-1))) (.bool false))) := Lib.hid (hW3 ▸ heap_set4 B2.out _ _ _ _)
        have Q3 := Lib.hid (HO3.out.at_ Q2.out (by omega))
        have N3 := Lib.hid (N2.out.trans' HO3.out (fun k hk e => by omega))
        have hs3 : w.heap.size + 1 < W3.heap.size := by have := HO3.out.size; omega
        clear hW3 f0 f1 f2 ff0 ff1 ff2 hne1 hne2 b0 b1 b2 b3 bf0 bf1 bf2 bf3 r0 r1 r2 r3 rf0 rf1 rf2 rf3
        have R3 : Hid (RefD X W3 (.agg #[.int .i64 most, .slice (some ⟨g, o, none⟩) L.length cap, .int .i64 (max (left - 1) (-1)), .bool false]) ⟨most, L, max (left - 1) (-1), false⟩) := Lib.hid ⟨_, rfl, HFL.out.nw N3.out⟩
        have r : Hid (Dsk.rCut ⟨most, L, left, false⟩ n kn = (⟨most, rwith L (n, ⟨(fileOf L n).bytes.take kn, kn⟩), max (left - 1) (-1), false⟩, 0)) := Lib.hid (by simp [Dsk.rCut, Dsk.op, HM.out, hz])
        have HZ := Lib.hid hz
        clear hz
        have F3 := Lib.hid (HO3.out.at_ F2.out (by omega))
        have hpf3 : pf < W3.heap.size := lt_of_block F3.out
        obtain ⟨f0, f1, f2, ff0, ff1, ff2⟩ := box_cells3 F3.out
        obtain ⟨b0, b1, b2, b3, -⟩ := box_cells B3.out
        have hne1 : ¬ w.heap.size = pf := by omega
        have hne2 : ¬ pf = w.heap.size := by omega
        have BN : Bs W3 (.slice none 0 0) [] := .inl ⟨none, rfl, rfl⟩
        have hj : (x2.take kn).length + ([] : List UInt8).length ≤ 140737488355328 := by simp; omega
        refine (joined_ok (R9.out.nw N3.out) BN hj).mono ?_
        rintro e w6 ⟨v6, rfl, hv6, n6, hnew6⟩
        rw [List.append_nil] at hv6
        have V6 := Lib.hid hv6
        have NEW6 := Lib.hid hnew6
        have N6 := Lib.hid n6
        obtain ⟨a6, c6, rfl, -⟩ := hv6.len
        clear f0 f1 f2 ff0 ff1 ff2 b0 b1 b2 b3 hsl hv6 n6 hnew6
        obtain ⟨f0, f1, f2, ff0, ff1, ff2⟩ := box_cells3 (N6.out.at_ F3.out)
        obtain ⟨b0, b1, b2, b3, -⟩ := box_cells (N6.out.at_ B3.out)
        go_wp2_with fail
        have hlen : (x2.take kn).length = kn := by simp; omega
        generalize hW7 : (w6.setCell ⟨pf, 1, none⟩ (.slice a6 kn c6)).setCell ⟨pf, 2, none⟩ (.int .i64 kn) = W7
        have HO7 : Hid (Only (fun k => k = pf) w6 W7) := Lib.hid (by
          rw [← hW7]
          refine Only.setCell (S := fun k => k = pf) (p := ⟨pf, 2, none⟩) ?_ (fun _ => rfl) _
          exact Only.setCell (S := fun k => k = pf) (p := ⟨pf, 1, none⟩) (Only.refl w6) (fun _ => rfl) _)
        have NB : Hid (Nw w W7) := Lib.hid ((N3.out.trans N6.out).trans' HO7.out (fun k hk e => by omega))
        have QB : Hid (W7.heap[w.heap.size + 1]? = _) := Lib.hid (HO7.out.at_ (N6.out.at_ Q3.out) (by omega))
        have BB : Hid (BsX X W7 (.slice a6 (x2.take kn).length c6) (x2.take kn)) := Lib.hid (by
          refine ⟨?_, fun _ g hg => HX.out g (by have := NEW6.out g hg; have := N3.out.size; omega)⟩
          have h1 := V6.out.keep HO7.out.size (fun g hg => HO7.out.block g (V6.out.lt g hg) (fun e => by have := NEW6.out g hg; omega))
          have h2 : (x2.take kn).length = ((x2.take kn).map u8).length := by simp
          exact Vec.rd (f := u8) h1)
        have hs7 : w.heap.size + 1 < W7.heap.size := by have := HO7.out.size; have := N6.out.size; omega
        clear hW7
        have RX : RefD X W7 (.agg #[.int .i64 most, .slice (some ⟨g, o, none⟩) L.length cap, .int .i64 (max (left - 1) (-1)), .bool false]) ⟨most, L, max (left - 1) (-1), false⟩ := ⟨_, rfl, HFL.out.nw NB.out⟩
        have RW := rwith_ok RX.b (Nw.refl W7) n ⟨x2.take kn, kn⟩ a6 c6 BB.out (by show L.length ≤ 100000; omega)
        rw [show (⟨x2.take kn, kn⟩ : DFile).bytes.length = kn from hlen] at RW
        refine RW.mono ?_
        clear RW RX hlen
        rintro e w4 ⟨v4, rfl, hr4, n4⟩
        have hx : (⟨x2.take kn, kn⟩ : DFile) = ⟨(fileOf L n).bytes.take kn, kn⟩ := by rw [← HACT.out]
        rw [hx] at hr4
        clear hx
        obtain ⟨sv4, cs4, rfl, hsv4, hfc4, hnw4⟩ := hr4
        obtain ⟨a4, c4, rfl, -⟩ := hsv4.len
        have RR : Hid (FL X w4 (.slice a4 (rwith L (n, ⟨(fileOf L n).bytes.take kn, kn⟩)).length c4) (rwith L (n, ⟨(fileOf L n).bytes.take kn, kn⟩))) := Lib.hid ⟨cs4, hsv4, hfc4.nw n4, fun _ g hg => HX.out g (by have := hnw4 g hg; have := NB.out.size; omega)⟩
        have N4 := Lib.hid (NB.out.trans n4)
        have Q4 := n4.at_ QB.out
        obtain ⟨r0, r1, r2, r3, rf0, rf1, rf2, rf3⟩ := box_cells Q4
        have hs4 : w.heap.size + 1 < w4.heap.size := by have := n4.size; (try simp at this); omega
        have QQ := Lib.hid Q4
        clear hsv4 hfc4 hnw4 n4 Q4
        simp only
        go_wp2
        refine bodyPost_ret (v := .tuple #[.agg #[.int .i64 most, .slice a4 (rwith L (n, ⟨(fileOf L n).bytes.take kn, kn⟩)).length c4, .int .i64 (max (left - 1) (-1)), .bool false], .int .i64 0]) (by simp [results, Tryz.results99, go_sem, r0, r1, r2, r3]) rfl ?_
        have hN := N4.out.trans' (only_set4q w4 (w.heap.size + 1) (.int .i64 most) (.slice a4 (rwith L (n, ⟨(fileOf L n).bytes.take kn, kn⟩)).length c4) (.int .i64 (max (left - 1) (-1))) (.bool false)) (fun k hk e => by omega)
        rw [r.out]
        exact ⟨_, rfl, ⟨_, rfl, RR.out.box QQ.out (only_set4q w4 (w.heap.size + 1) (.int .i64 most) (.slice a4 (rwith L (n, ⟨(fileOf L n).bytes.take kn, kn⟩)).length c4) (.int .i64 (max (left - 1) (-1))) (.bool false))⟩, hN⟩

end
end Go.Proofs.YtkhcdbafcigeoaaGreatDoor

namespace Go.Proofs.YtkhcdbafcigeoaaGreatDoor
open Go Go.RowKit Go.Sort
set_option maxRecDepth 100000
set_option maxHeartbeats 3200000
section
variable {X : Nat → Prop}

theorem rArm_ok {w : World} {v : Value} {r : Dsk} (h : RefD X w v r) (n : Int) : Calls Tryz.prog 37 #[v, .int .i64 n] w fun e w' =>
    ∃ v', e = .returned v' ∧ RefD X w' v' (r.armed n) ∧ Nw w w' := by
  obtain ⟨sv, rfl, hFL⟩ := h
  obtain ⟨a, cap, rfl, h1, h2, -⟩ := hFL.elem
  obtain ⟨most, L, left, down⟩ := r
  simp only at h1 h2
  have HFL := Lib.hid hFL
  simp only at HFL
  clear hFL
  cases down
  case true =>
    have r : Hid (Dsk.armed ⟨most, L, left, true⟩ n = ⟨most, L, left, true⟩) := Lib.hid (by simp [Dsk.armed])
    rw [r.out]
    go_enter Tryz.func37, Tryz.ntmps37
    go_wp2
    refine bodyPost_ret (v := .agg #[.int .i64 most, .slice a L.length cap, .int .i64 left, .bool true]) (by simp [results, Tryz.results37, go_sem]) rfl ?_
    have hN := ((Nw.refl w).alloc (DB (.int .i64 most) (.slice a L.length cap) (.int .i64 left) (.bool true))).alloc (DB (.int .i64 most) (.slice a L.length cap) (.int .i64 left) (.bool true))
    exact ⟨_, rfl, ⟨_, rfl, HFL.out.nw hN⟩, hN⟩
  case false =>
    have hc : n < 0 ∨ 0 ≤ n := by omega
    rcases hc with hc | hc
    · have hc' : decide (n < 0) = true := by simp; exact hc
      have r : Hid (Dsk.armed ⟨most, L, left, false⟩ n = ⟨most, L, 0, false⟩) := Lib.hid (by simp [Dsk.armed]; omega)
      rw [r.out]
      go_enter Tryz.func37, Tryz.ntmps37
      go_wp2
      refine bodyPost_ret (v := .agg #[.int .i64 most, .slice a L.length cap, .int .i64 0, .bool false]) (by simp [results, Tryz.results37, go_sem]) rfl ?_
      have hN := ((Nw.refl w).alloc (DB (.int .i64 most) (.slice a L.length cap) (.int .i64 0) (.bool false))).alloc (DB (.int .i64 most) (.slice a L.length cap) (.int .i64 0) (.bool false))
      exact ⟨_, rfl, ⟨_, rfl, HFL.out.nw hN⟩, hN⟩
    · have hc' : decide (n < 0) = false := by simp; exact hc
      have r : Hid (Dsk.armed ⟨most, L, left, false⟩ n = ⟨most, L, n, false⟩) := Lib.hid (by simp [Dsk.armed]; omega)
      rw [r.out]
      go_enter Tryz.func37, Tryz.ntmps37
      go_wp2
      refine bodyPost_ret (v := .agg #[.int .i64 most, .slice a L.length cap, .int .i64 n, .bool false]) (by simp [results, Tryz.results37, go_sem]) rfl ?_
      have hN := ((Nw.refl w).alloc (DB (.int .i64 most) (.slice a L.length cap) (.int .i64 n) (.bool false))).alloc (DB (.int .i64 most) (.slice a L.length cap) (.int .i64 n) (.bool false))
      exact ⟨_, rfl, ⟨_, rfl, HFL.out.nw hN⟩, hN⟩

end
end Go.Proofs.YtkhcdbafcigeoaaGreatDoor

namespace Go.Proofs.YtkhcdbafcigeoaaGreatDoor
open Go Go.RowKit Go.Sort
set_option maxRecDepth 100000
set_option maxHeartbeats 3200000
section
variable {X : Nat → Prop}


theorem rRename_ok {w : World} {v : Value} {r : Dsk} (hX : ∀ k, w.heap.size ≤ k → X k) (h : RefD X w v r) (hk : ROk r) (n m : Str) (hml : m.length ≤ 9223372036854775807) : Calls Tryz.prog 158 #[v, .string ⟨n.toArray⟩, .string ⟨m.toArray⟩] w fun e w' =>
    ∃ v', e = .returned (.tuple #[v', .int .i64 (r.rRename n m).2]) ∧ RefD X w' v' (r.rRename n m).1 ∧ Nw w w' := by
  have HX := Lib.hid hX
  clear hX
  have HR := Lib.hid h
  obtain ⟨sv, rfl, hFL⟩ := h
  obtain ⟨a, cap, rfl, h1, h2, hel⟩ := hFL.elem
  obtain ⟨most, L, left, down⟩ := r
  obtain ⟨few, used, most0, most1, arm0, arm1⟩ := hk
  simp only at h1 h2 HR few used most0 most1 arm0 arm1 hel
  have HFL := Lib.hid hFL
  have HE := Lib.hid hel
  simp only at HFL
  clear hFL hel
  unfold maxLen at h2
  cases down
  case true =>
    have r : Hid (Dsk.rRename ⟨most, L, left, true⟩ n m = (⟨most, L, left, true⟩, 15)) := Lib.hid (by simp [Dsk.rRename, Dsk.op])
    rw [r.out]
    go_enter Tryz.func158, Tryz.ntmps158
    go_wp2
    refine bodyPost_ret (v := .tuple #[.agg #[.int .i64 most, .slice a L.length cap, .int .i64 left, .bool true], .int .i64 15]) (by simp [results, Tryz.results158, go_sem]) rfl ?_
    have hN := ((Nw.refl w).alloc (DB (.int .i64 most) (.slice a L.length cap) (.int .i64 left) (.bool true))).alloc (DB (.int .i64 most) (.slice a L.length cap) (.int .i64 left) (.bool true))
    exact ⟨_, rfl, ⟨_, rfl, HFL.out.nw hN⟩, hN⟩
  case false =>
    have TB := two_boxes w #[.int .i64 most, .slice a L.length cap, .int .i64 left, .bool false] #[.int .i64 0, .slice none 0 0, .int .i64 0, .bool false] 43 43
    go_enter Tryz.func158, Tryz.ntmps158
    go_wp2_with fail
    generalize (w.alloc (.cells #[.int .i64 most, .slice a L.length cap, .int .i64 left, .bool false] 43)).alloc (.cells #[.int .i64 0, .slice none 0 0, .int .i64 0, .bool false] 43) = W0 at TB ⊢
    obtain ⟨t1, t2, t3, t4⟩ := TB
    have T1 := Lib.hid t1
    have T2 := Lib.hid t2
    have T3 := Lib.hid t3
    have T4 := Lib.hid t4
    clear t1 t2 t3 t4
    refine (rFind_ok (HR.out.nw T1.out) n).mono ?_
    rintro e w1 ⟨rfl, n1⟩
    have N1 := Lib.hid (T1.out.trans n1)
    have B1 := Lib.hid (n1.at_ T2.out)
    have Q1 := Lib.hid (n1.at_ T3.out)
    have hs1 : w.heap.size + 1 < w1.heap.size := by have := n1.size; have := T4.out; omega
    obtain ⟨b0, b1, b2, b3, bf0, bf1, bf2, bf3⟩ := box_cells B1.out
    obtain ⟨r0, r1, r2, r3, rf0, rf1, rf2, rf3⟩ := box_cells Q1.out
    simp only
    clear n1
    by_cases hn : n ∈ namesF L
    case neg =>
      have r : Hid (Dsk.rRename ⟨most, L, left, false⟩ n m = (⟨most, L, left, false⟩, 13)) := Lib.hid (by simp [Dsk.rRename, Dsk.op, Dsk.there, hn])
      rw [rfind_no hn]
      clear hn
      go_wp2
      refine bodyPost_ret (v := .tuple #[.agg #[.int .i64 most, .slice a L.length cap, .int .i64 left, .bool false], .int .i64 13]) (by simp [results, Tryz.results158, go_sem, r0, r1, r2, r3]) rfl ?_
      have hN := N1.out.trans' (only_set4q w1 (w.heap.size + 1) (.int .i64 most) (.slice a L.length cap) (.int .i64 left) (.bool false)) (fun k hk e => by omega)
      rw [r.out]
      exact ⟨_, rfl, ⟨_, rfl, HFL.out.nw hN⟩, hN⟩
    case pos =>
      obtain ⟨k, hk, hfi, hkn, hfo⟩ := rfind_mem hn
      obtain ⟨g, o, b, rfl, e0, e1, e2, hb⟩ := HE.out k hk
      obtain ⟨xa, xc, rfl, hxl, -⟩ := hb.1.elems
      have HC0 := Lib.hid e0
      have c0 := N1.out.cell e0
      have c1 := N1.out.cell e1
      have c2 := N1.out.cell e2
      have HBX := Lib.hid hb
      have HXL := Lib.hid hxl
      have hul := rfile_le L n
      rw [hfo] at hul
      rw [hkn] at c0
      have HACT : Hid (L[k].2 = fileOf L n) := Lib.hid hfo.symm
      have HN := Lib.hid hn
      clear hb e0 e1 e2 hkn hfo hxl
      generalize L[k] = x at *
      obtain ⟨x1, x2, x3⟩ := x
      simp only at c1 c2 hul HACT HBX HXL
      have hks : (k : Int) ≤ (L.length : Int) := by omega
      have g0 : decide ((k : Int) < 0) = false := by simp
      rw [hfi]
      clear hfi hn
      go_wp2_with fail
      refine (rRight_ok m _ hml).mono ?_
      rintro e w9 ⟨rfl, rfl⟩
      by_cases hok : okName m = true
      case neg =>
        have hok' : okName m = false := by simpa using hok
        rw [hok']
        have r : Hid (Dsk.rRename ⟨most, L, left, false⟩ n m = (⟨most, L, left, false⟩, 13)) := Lib.hid (by simp [Dsk.rRename, Dsk.op, hok'])
        clear hok hok'
        go_wp2
        refine bodyPost_ret (v := .tuple #[.agg #[.int .i64 most, .slice (some ⟨g, o, none⟩) L.length cap, .int .i64 left, .bool false], .int .i64 13]) (by simp [results, Tryz.results158, go_sem, r0, r1, r2, r3]) rfl ?_
        have hN := N1.out.trans' (only_set4q w1 (w.heap.size + 1) (.int .i64 most) (.slice (some ⟨g, o, none⟩) L.length cap) (.int .i64 left) (.bool false)) (fun k hk e => by omega)
        rw [r.out]
        exact ⟨_, rfl, ⟨_, rfl, HFL.out.nw hN⟩, hN⟩
      rw [hok]
      have hth : Dsk.there ⟨most, L, left, false⟩ n = 0 := by simp [Dsk.there, HN.out]
      have HTH := Lib.hid hth
      have HOK := Lib.hid hok
      clear hok hth g0
      go_wp2_with fail
      refine (opn_ok _ most left (some ⟨g, o, none⟩) L.length cap false arm0 arm1).mono ?_
      rintro e w2 ⟨n2, he⟩
      have N2 := Lib.hid (N1.out.trans n2)
      have B2 := Lib.hid (n2.at_ B1.out)
      have Q2 := Lib.hid (n2.at_ Q1.out)
      have hs2 : w.heap.size + 1 < w2.heap.size := by have := n2.size; omega
      have c0 := n2.cell c0
      have c1 := n2.cell c1
      have c2 := n2.cell c2
      clear b0 b1 b2 b3 bf0 bf1 bf2 bf3 r0 r1 r2 r3 rf0 rf1 rf2 rf3 n2
      obtain ⟨b0, b1, b2, b3, bf0, bf1, bf2, bf3⟩ := box_cells B2.out
      obtain ⟨r0, r1, r2, r3, rf0, rf1, rf2, rf3⟩ := box_cells Q2.out
      by_cases hz : left = 0
      · have r : Hid (Dsk.rRename ⟨most, L, left, false⟩ n m = (⟨most, L, -1, true⟩, 15)) := Lib.hid (by have hm := HTH.out; rw [hz] at hm; simp [Dsk.rRename, Dsk.op, HOK.out, hm, hz])
        rw [if_pos hz] at he
        subst he
        clear hz
        go_wp2
        refine bodyPost_ret (v := .tuple #[.agg #[.int .i64 most, .slice (some ⟨g, o, none⟩) L.length cap, .int .i64 (-1), .bool true], .int .i64 15]) (by simp [results, Tryz.results158, go_sem, r0, r1, r2, r3]) rfl ?_
        have hN := (N2.out.trans' (only_set4 w2 w.heap.size (.int .i64 most) (.slice (some ⟨g, o, none⟩) L.length cap) (.int .i64 (-1)) (.bool true)) (fun k hk e => by omega)).trans' (only_set4q _ (w.heap.size + 1) (.int .i64 most) (.slice (some ⟨g, o, none⟩) L.length cap) (.int .i64 (-1)) (.bool true)) (fun k hk e => by omega)
        rw [r.out]
        exact ⟨_, rfl, ⟨_, rfl, HFL.out.nw hN⟩, hN⟩
      · rw [if_neg hz] at he
        subst he
        have hgl : g < w.heap.size := World.block_lt_of_cell? w _ HC0.out
        have hg1 : ¬ w.heap.size = g := by omega
        have hg2 : ¬ g = w.heap.size := by omega
        go_wp2_with fail
        generalize hW3 : (((w2.setCell ⟨w.heap.size, 0, none⟩ (.int .i64 most)).setCell ⟨w.heap.size, 1, none⟩ (.slice (some ⟨g, o, none⟩) L.length cap)).setCell ⟨w.heap.size, 2, none⟩ (.int .i64 (max (left - 1) (-1)))).setCell ⟨w.heap.size, 3, none⟩ (.bool false) = W3
        have HO3 : Hid (Only (fun k => k = w.heap.size) w2 W3) := Lib.hid (hW3 ▸ only_set4 w2 w.heap.size _ _ _ _)
        have B3 : Hid (W3.heap[w.heap.size]? = some (DB (.int .i64 most) (.slice (some ⟨g, o, none⟩) L.length cap) (.int .i64 (max (left - 1) (-1))) (.bool false))) := Lib.hid (hW3 ▸ heap_set4 B2.out _ _ _ _)
        have Q3 := Lib.hid (HO3.out.at_ Q2.out (by omega))
        have N3 := Lib.hid (N2.out.trans' HO3.out (fun k hk e => by omega))
        have hs3 : w.heap.size + 1 < W3.heap.size := by have := HO3.out.size; omega
        have hss : W3.heap.size = w2.heap.size := by rw [← hW3]; simp
        clear hW3
        refine wp_region_steps 5 [.rd 0, .rd 1, .rd 3, .dn 2, .dn 4] [5, 6] (fun x => Nw (W3.alloc (.cells #[.string ⟨m.toArray⟩, .slice xa x2.length xc, .int .i64 x3] 143)) x) (by kernel_rfl) (by kernel_rfl) (fun _ _ _ _ _ h => h) ((Nw.refl _).drew) ?_
        have NA : Hid (Nw W3 (W3.alloc (.cells #[.string ⟨m.toArray⟩, .slice xa x2.length xc, .int .i64 x3] 143))) := Lib.hid ((Nw.refl W3).alloc _)
        have F4 := Lib.hid (heap_alloc_new W3 (.cells #[.string ⟨m.toArray⟩, .slice xa x2.length xc, .int .i64 x3] 143))
        rw [hss] at F4
        generalize W3.alloc (.cells #[.string ⟨m.toArray⟩, .slice xa x2.length xc, .int .i64 x3] 143) = W4 at NA F4 ⊢
        have B4 := Lib.hid (NA.out.at_ B3.out)
        have Q4 := Lib.hid (NA.out.at_ Q3.out)
        have N4 := Lib.hid (N3.out.trans NA.out)
        clear b0 b1 b2 b3 bf0 bf1 bf2 bf3 r0 r1 r2 r3 rf0 rf1 rf2 rf3 c0 c1 c2
        refine wpSteps_val (.agg #[.int .i64 most, .slice (some ⟨g, o, none⟩) L.length cap, .int .i64 (max (left - 1) (-1)), .bool false]) rfl rfl (fun x hx => by
          obtain ⟨b0, b1, b2, b3, bf0, bf1, bf2, bf3⟩ := box_cells (hx.at_ B4.out)
          go_simp) ?_
        refine wpSteps_val (.string ⟨n.toArray⟩) rfl rfl (fun x hx => by go_simp) ?_
        refine wpSteps_val (.agg #[.string ⟨m.toArray⟩, .slice xa x2.length xc, .int .i64 x3]) rfl rfl (fun x hx => by
          obtain ⟨f0, f1, f2, ff0, ff1, ff2⟩ := box_cells3 (hx.at_ F4.out)
          go_simp) ?_
        simp only [Act.put, Array.setIfInBounds]
        refine wpSteps_dn rfl (fun K hK => ?_)
        go_wp2_with fail
        have RX : RefD X W4.drew (.agg #[.int .i64 most, .slice (some ⟨g, o, none⟩) L.length cap, .int .i64 (max (left - 1) (-1)), .bool false]) ⟨most, L, max (left - 1) (-1), false⟩ := ⟨_, rfl, HFL.out.nw (N4.out.trans ((Nw.refl W4).drew))⟩
        have hL : L.length ≤ 100000 := by omega
        refine (rwithout_ok RX.b (Nw.refl _) n hL).mono ?_
        rintro e w5 ⟨v5, rfl, hr5, n5⟩
        go_wp2
        have M5 := Lib.hid (((Nw.refl W4).drew).trans n5)
        have N5 := Lib.hid n5
        refine hK _ _ M5.out ?_; clear hK K
        refine wpSteps_dn rfl (fun K hK => ?_)
        go_wp2_with fail
        have HB4 := HBX.out.nw (N4.out.trans ((Nw.refl W4).drew))
        have h5 : (rwithout L n).length ≤ 100000 := Nat.le_trans (List.length_filter_le _ _) hL
        refine (rwith_ok hr5.b n5 m ⟨x2, x3⟩ xa xc HB4 h5).mono ?_
        rintro e w6 ⟨v6, rfl, hr6, n6⟩
        go_wp2
        have M6 := Lib.hid (M5.out.trans n6)
        refine hK _ _ M6.out ?_; clear hK K
        refine wpSteps_nil ?_
        have Q6 := Lib.hid (M6.out.at_ Q4.out)
        obtain ⟨r0, r1, r2, r3, rf0, rf1, rf2, rf3⟩ := box_cells Q6.out
        obtain ⟨sv6, cs6, rfl, hsv6, hfc6, hnw6⟩ := hr6
        obtain ⟨a6, c6, rfl, -⟩ := hsv6.len
        have hs6 : w.heap.size + 1 < w6.heap.size := lt_of_block Q6.out
        have hnm : ∀ M : List (Str × DFile), M = rwith (rwithout L n) (m, ⟨x2, x3⟩) → FL X w6 (.slice a6 M.length c6) M := fun M hM => by subst hM; exact ⟨cs6, hsv6, hfc6.nw (N5.out.trans n6), fun _ g hg => HX.out g (by have := hnw6 g hg; have := M5.out.size; have := N4.out.size; omega)⟩
        generalize hM : rwith (rwithout L n) (m, ⟨x2, x3⟩) = M at *
        have RR := Lib.hid (hnm M rfl)
        have HMM := Lib.hid hM
        have QQ := Lib.hid Q6.out
        clear hsv6 hfc6 hnw6 hnm hM n6 hr5 HB4 h5 n5
        refine stp_do rfl (by decide) (fun K hK => ?_)
        go_wp2
        (try (refine hK _ _ ?_; clear hK K))
        refine stp_do rfl (by decide) (fun K hK => ?_)
        go_wp2
        (try (refine hK _ _ ?_; clear hK K))
        refine wpNums_nil ?_
        have r : Hid (Dsk.rRename ⟨most, L, left, false⟩ n m = (⟨most, M, max (left - 1) (-1), false⟩, 0)) := Lib.hid (by rw [← HMM.out, show (⟨x2, x3⟩ : DFile) = fileOf L n from HACT.out]; simp [Dsk.rRename, Dsk.op, HOK.out, HTH.out, hz])
        clear r0 r1 r2 r3 rf0 rf1 rf2 rf3
        have hN := (N4.out.trans M6.out).trans' (only_set4q w6 (w.heap.size + 1) (.int .i64 most) (.slice a6 M.length c6) (.int .i64 (max (left - 1) (-1))) (.bool false)) (fun k hk e => by omega)
        have HN9 := Lib.hid hN
        have RR9 := Lib.hid (RR.out.box QQ.out (only_set4q w6 (w.heap.size + 1) (.int .i64 most) (.slice a6 M.length c6) (.int .i64 (max (left - 1) (-1))) (.bool false)))
        obtain ⟨r0, r1, r2, r3, -⟩ := box_cells (heap_set4 QQ.out (.int .i64 most) (.slice a6 M.length c6) (.int .i64 (max (left - 1) (-1))) (.bool false))
        clear hN
        generalize (((w6.setCell ⟨w.heap.size + 1, 0, none⟩ (.int .i64 most)).setCell ⟨w.heap.size + 1, 1, none⟩ (.slice a6 M.length c6)).setCell ⟨w.heap.size + 1, 2, none⟩ (.int .i64 (max (left - 1) (-1)))).setCell ⟨w.heap.size + 1, 3, none⟩ (.bool false) = w9 at HN9 RR9 r0 r1 r2 r3 ⊢
        go_wp2_with fail
        refine bodyPost_ret (v := .tuple #[.agg #[.int .i64 most, .slice a6 M.length c6, .int .i64 (max (left - 1) (-1)), .bool false], .int .i64 0]) (by simp [results, Tryz.results158, go_sem, r0, r1, r2, r3]) rfl ?_
        rw [r.out]
        exact ⟨_, rfl, ⟨_, rfl, RR9.out⟩, HN9.out⟩

end
end Go.Proofs.YtkhcdbafcigeoaaGreatDoor
