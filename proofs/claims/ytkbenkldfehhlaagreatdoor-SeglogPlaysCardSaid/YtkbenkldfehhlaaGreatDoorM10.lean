/-
  Texts merged by a program of this claim's: Ref02G, Ref02H, Ref02I, DocA.
-/
import Derived.Test.YtkbenkldfehhlaaGreatDoorM8
import Derived.Test.YtkbenkldfehhlaaGreatDoorM9
import Derived.Deep.DeepCutAuto
namespace Go.Proofs.YtkbenkldfehhlaaGreatDoor
open Go Go.RowKit Go.Sort
set_option maxRecDepth 100000
set_option maxHeartbeats 3200000
section
variable {X : Nat → Prop}


theorem rRename_ok {w : World} {v : Value} {r : Dsk} (hX : ∀ k, w.heap.size ≤ k → X k) (h : RefD X w v r) (hk : ROk r) (n m : Str) (hml : m.length ≤ 9223372036854775807) : Calls Tryz.prog 125 #[v, .string ⟨n.toArray⟩, .string ⟨m.toArray⟩] w fun e w' =>
    ∃ v', e = .returned (.tuple #[v', .int .i64 (r.rRename n m).2]) ∧ RefD X w' v' (r.rRename n m).1 ∧ Nw w w' := by
  have HX := Lib.hid hX
  clear hX
  have HR := Lib.hid h
  obtain ⟨sv, rfl, hFL⟩ := h
  obtain ⟨a, cap, rfl, h1, h2, hel⟩ := hFL.elem
  obtain ⟨most, L, left, down⟩ := r
  obtain ⟨few, used, most0, most1, arm0, arm1⟩ := hk
  simp only at h1 h2 HR few used most0 most1 arm0 arm1 hel
  have HFL := Lib.hid hFL
  have HE := Lib.hid hel
  simp only at HFL
  clear hFL hel
  unfold maxLen at h2
  cases down
  case true =>
    have r : Hid (Dsk.rRename ⟨most, L, left, true⟩ n m = (⟨most, L, left, true⟩, 15)) := Lib.hid (by simp [Dsk.rRename, Dsk.op])
    rw [r.out]
    go_enter Tryz.func125, Tryz.ntmps125
    go_wp2
    refine bodyPost_ret (v := .tuple #[.agg #[.int .i64 most, .slice a L.length cap, .int .i64 left, .bool true], .int .i64 15]) (by simp [results, Tryz.results125, go_sem]) rfl ?_
    have hN := ((Nw.refl w).alloc (DB (.int .i64 most) (.slice a L.length cap) (.int .i64 left) (.bool true))).alloc (DB (.int .i64 most) (.slice a L.length cap) (.int .i64 left) (.bool true))
    exact ⟨_, rfl, ⟨_, rfl, HFL.out.nw hN⟩, hN⟩
  case false =>
    have TB := two_boxes w #[.int .i64 most, .slice a L.length cap, .int .i64 left, .bool false] #[.int .i64 0, .slice none 0 0, .int .i64 0, .bool false] 28 28
    go_enter Tryz.func125, Tryz.ntmps125
    go_wp2_with fail
    generalize (w.alloc (.cells #[.int .i64 most, .slice a L.length cap, .int .i64 left, .bool false] 28)).alloc (.cells #[.int .i64 0, .slice none 0 0, .int .i64 0, .bool false] 28) = W0 at TB ⊢
    obtain ⟨t1, t2, t3, t4⟩ := TB
    have T1 := Lib.hid t1
    have T2 := Lib.hid t2
    have T3 := Lib.hid t3
    have T4 := Lib.hid t4
    clear t1 t2 t3 t4
    refine (rFind_ok (HR.out.nw T1.out) n).mono ?_
    rintro e w1 ⟨rfl, n1⟩
    have N1 := Lib.hid (T1.out.trans n1)
    have B1 := Lib.hid (n1.at_ T2.out)
    have Q1 := Lib.hid (n1.at_ T3.out)
    have hs1 : w.heap.size + 1 < w1.heap.size := by have := n1.size; have := T4.out; omega
    obtain ⟨b0, b1, b2, b3, bf0, bf1, bf2, bf3⟩ := box_cells B1.out
    obtain ⟨r0, r1, r2, r3, rf0, rf1, rf2, rf3⟩ := box_cells Q1.out
    simp only
    clear n1
    by_cases hn : n ∈ namesF L
    case neg =>
      have r : Hid (Dsk.rRename ⟨most, L, left, false⟩ n m = (⟨most, L, left, false⟩, 13)) := Lib.hid (by simp [Dsk.rRename, Dsk.op, Dsk.there, hn])
      rw [rfind_no hn]
      clear hn
      go_wp2
      refine bodyPost_ret (v := .tuple #[.agg #[.int .i64 most, .slice a L.length cap, .int .i64 left, .bool false], .int .i64 13]) (by simp [results, Tryz.results125, go_sem, r0, r1, r2, r3]) rfl ?_
      have hN := N1.out.trans' (only_set4q w1 (w.heap.size + 1) (.int .i64 most) (.slice a L.length cap) (.int .i64 left) (.bool false)) (fun k hk e => by omega)
      rw [r.out]
      exact ⟨_, rfl, ⟨_, rfl, HFL.out.nw hN⟩, hN⟩
    case pos =>
      obtain ⟨k, hk, hfi, hkn, hfo⟩ := rfind_mem hn
      obtain ⟨g, o, b, rfl, e0, e1, e2, hb⟩ := HE.out k hk
      obtain ⟨xa, xc, rfl, hxl, -⟩ := hb.1.elems
      have HC0 := Lib.hid e0
      have c0 := N1.out.cell e0
      have c1 := N1.out.cell e1
      have c2 := N1.out.cell e2
      have HBX := Lib.hid hb
      have HXL := Lib.hid hxl
      have hul := rfile_le L n
      rw [hfo] at hul
      rw [hkn] at c0
      have HACT : Hid (L[k].2 = fileOf L n) := Lib.hid hfo.symm
      have HN := Lib.hid hn
      clear hb e0 e1 e2 hkn hfo hxl
      generalize L[k] = x at *
      obtain ⟨x1, x2, x3⟩ := x
      simp only at c1 c2 hul HACT HBX HXL
      have hks : (k : Int) ≤ (L.length : Int) := by omega
      have g0 : decide ((k : Int) < 0) = false := by simp
      rw [hfi]
      clear hfi hn
      go_wp2_with fail
      refine (rRight_ok m _ hml).mono ?_
      rintro e w9 ⟨rfl, rfl⟩
      by_cases hok : okName m = true
      case neg =>
        have hok' : okName m = false := by simpa using hok
        rw [hok']
        have r : Hid (Dsk.rRename ⟨most, L, left, false⟩ n m = (⟨most, L, left, false⟩, 13)) := Lib.hid (by simp [Dsk.rRename, Dsk.op, hok'])
        clear hok hok'
        go_wp2
        refine bodyPost_ret (v := .tuple #[.agg #[.int .i64 most, .slice (some ⟨g, o, none⟩) L.length cap, .int .i64 left, .bool false], .int .i64 13]) (by simp [results, Tryz.results125, go_sem, r0, r1, r2, r3]) rfl ?_
        have hN := N1.out.trans' (only_set4q w1 (w.heap.size + 1) (.int .i64 most) (.slice (some ⟨g, o, none⟩) L.length cap) (.int .i64 left) (.bool false)) (fun k hk e => by omega)
        rw [r.out]
        exact ⟨_, rfl, ⟨_, rfl, HFL.out.nw hN⟩, hN⟩
      rw [hok]
      have hth : Dsk.there ⟨most, L, left, false⟩ n = 0 := by simp [Dsk.there, HN.out]
      have HTH := Lib.hid hth
      have HOK := Lib.hid hok
      clear hok hth g0
      go_wp2_with fail
      refine (opn_ok _ most left (some ⟨g, o, none⟩) L.length cap false arm0 arm1).mono ?_
      rintro e w2 ⟨n2, he⟩
      have N2 := Lib.hid (N1.out.trans n2)
      have B2 := Lib.hid (n2.at_ B1.out)
      have Q2 := Lib.hid (n2.at_ Q1.out)
      have hs2 : w.heap.size + 1 < w2.heap.size := by have := n2.size; omega
      have c0 := n2.cell c0
      have c1 := n2.cell c1
      have c2 := n2.cell c2
      clear b0 b1 b2 b3 bf0 bf1 bf2 bf3 r0 r1 r2 r3 rf0 rf1 rf2 rf3 n2
      obtain ⟨b0, b1, b2, b3, bf0, bf1, bf2, bf3⟩ := box_cells B2.out
      obtain ⟨r0, r1, r2, r3, rf0, rf1, rf2, rf3⟩ := box_cells Q2.out
      by_cases hz : left = 0
      · have r : Hid (Dsk.rRename ⟨most, L, left, false⟩ n m = (⟨most, L, -1, true⟩, 15)) := Lib.hid (by have hm := HTH.out; rw [hz] at hm; simp [Dsk.rRename, Dsk.op, HOK.out, hm, hz])
        rw [if_pos hz] at he
        subst he
        clear hz
        go_wp2
        refine bodyPost_ret (v := .tuple #[.agg #[.int .i64 most, .slice (some ⟨g, o, none⟩) L.length cap, .int .i64 (-1), .bool true], .int .i64 15]) (by simp [results, Tryz.results125, go_sem, r0, r1, r2, r3]) rfl ?_
        have hN := (N2.out.trans' (only_set4 w2 w.heap.size (.int .i64 most) (.slice (some ⟨g, o, none⟩) L.length cap) (.int .i64 (-1)) (.bool true)) (fun k hk e => by omega)).trans' (only_set4q _ (w.heap.size + 1) (.int .i64 most) (.slice (some ⟨g, o, none⟩) L.length cap) (.int .i64 (-1)) (.bool true)) (fun k hk e => by omega)
        rw [r.out]
        exact ⟨_, rfl, ⟨_, rfl, HFL.out.nw hN⟩, hN⟩
      · rw [if_neg hz] at he
        subst he
        have hgl : g < w.heap.size := World.block_lt_of_cell? w _ HC0.out
        have hg1 : ¬ w.heap.size = g := by omega
        have hg2 : ¬ g = w.heap.size := by omega
        go_wp2_with fail
        generalize hW3 : (((w2.setCell ⟨w.heap.size, 0, none⟩ (.int .i64 most)).setCell ⟨w.heap.size, 1, none⟩ (.slice (some ⟨g, o, none⟩) L.length cap)).setCell ⟨w.heap.size, 2, none⟩ (.int .i64 (max (left - 1) (-1)))).setCell ⟨w.heap.size, 3, none⟩ (.bool false) = W3
        have HO3 : Hid (Only (fun k => k = w.heap.size) w2 W3) := Lib.hid (hW3 ▸ only_set4 w2 w.heap.size _ _ _ _)
        have B3 : Hid (W3.heap[w.heap.size]? = some (DB (.int .i64 most) (.slice (some ⟨g, o, none⟩) L.length cap) (.int .i64 (max (left - 1) (-1))) (.bool false))) := Lib.hid (hW3 ▸ heap_set4 B2.out _ _ _ _)
        have Q3 := Lib.hid (HO3.out.at_ Q2.out (by omega))
        have N3 := Lib.hid (N2.out.trans' HO3.out (fun k hk e => by omega))
        have hs3 : w.heap.size + 1 < W3.heap.size := by have := HO3.out.size; omega
        have hss : W3.heap.size = w2.heap.size := by rw [← hW3]; simp
        clear hW3
        refine wp_region_steps 5 [.rd 0, .rd 1, .rd 3, .dn 2, .dn 4] [5, 6] (fun x => Nw (W3.alloc (.cells #[.string ⟨m.toArray⟩, .slice xa x2.length xc, .int .i64 x3] 104)) x) (by kernel_rfl) (by kernel_rfl) (fun _ _ _ _ _ h => h) ((Nw.refl _).drew) ?_
        have NA : Hid (Nw W3 (W3.alloc (.cells #[.string ⟨m.toArray⟩, .slice xa x2.length xc, .int .i64 x3] 104))) := Lib.hid ((Nw.refl W3).alloc _)
        have F4 := Lib.hid (heap_alloc_new W3 (.cells #[.string ⟨m.toArray⟩, .slice xa x2.length xc, .int .i64 x3] 104))
        rw [hss] at F4
        generalize W3.alloc (.cells #[.string ⟨m.toArray⟩, .slice xa x2.length xc, .int .i64 x3] 104) = W4 at NA F4 ⊢
        have B4 := Lib.hid (NA.out.at_ B3.out)
        have Q4 := Lib.hid (NA.out.at_ Q3.out)
        have N4 := Lib.hid (N3.out.trans NA.out)
        clear b0 b1 b2 b3 bf0 bf1 bf2 bf3 r0 r1 r2 r3 rf0 rf1 rf2 rf3 c0 c1 c2
        refine wpSteps_val (.agg #[.int .i64 most, .slice (some ⟨g, o, none⟩) L.length cap, .int .i64 (max (left - 1) (-1)), .bool false]) rfl rfl (fun x hx => by
          obtain ⟨b0, b1, b2, b3, bf0, bf1, bf2, bf3⟩ := box_cells (hx.at_ B4.out)
          go_simp) ?_
        refine wpSteps_val (.string ⟨n.toArray⟩) rfl rfl (fun x hx => by go_simp) ?_
        refine wpSteps_val (.agg #[.string ⟨m.toArray⟩, .slice xa x2.length xc, .int .i64 x3]) rfl rfl (fun x hx => by
          obtain ⟨f0, f1, f2, ff0, ff1, ff2⟩ := box_cells3 (hx.at_ F4.out)
          go_simp) ?_
        simp only [Act.put, Array.setIfInBounds]
        refine wpSteps_dn rfl (fun K hK => ?_)
        go_wp2_with fail
        have RX : RefD X W4.drew (.agg #[.int .i64 most, .slice (some ⟨g, o, none⟩) L.length cap, .int .i64 (max (left - 1) (-1)), .bool false]) ⟨most, L, max (left - 1) (-1), false⟩ := ⟨_, rfl, HFL.out.nw (N4.out.trans ((Nw.refl W4).drew))⟩
        have hL : L.length ≤ 100000 := by omega
        refine (rwithout_ok RX.b (Nw.refl _) n hL).mono ?_
        rintro e w5 ⟨v5, rfl, hr5, n5⟩
        go_wp2
        have M5 := Lib.hid (((Nw.refl W4).drew).trans n5)
        have N5 := Lib.hid n5
        refine hK _ _ M5.out ?_; clear hK K
        refine wpSteps_dn rfl (fun K hK => ?_)
        go_wp2_with fail
        have HB4 := HBX.out.nw (N4.out.trans ((Nw.refl W4).drew))
        have h5 : (rwithout L n).length ≤ 100000 := Nat.le_trans (List.length_filter_le _ _) hL
        refine (rwith_ok hr5.b n5 m ⟨x2, x3⟩ xa xc HB4 h5).mono ?_
        rintro e w6 ⟨v6, rfl, hr6, n6⟩
        go_wp2
        have M6 := Lib.hid (M5.out.trans n6)
        refine hK _ _ M6.out ?_; clear hK K
        refine wpSteps_nil ?_
        have Q6 := Lib.hid (M6.out.at_ Q4.out)
        obtain ⟨r0, r1, r2, r3, rf0, rf1, rf2, rf3⟩ := box_cells Q6.out
        obtain ⟨sv6, cs6, rfl, hsv6, hfc6, hnw6⟩ := hr6
        obtain ⟨a6, c6, rfl, -⟩ := hsv6.len
        have hs6 : w.heap.size + 1 < w6.heap.size := lt_of_block Q6.out
        have hnm : ∀ M : List (Str × DFile), M = rwith (rwithout L n) (m, ⟨x2, x3⟩) → FL X w6 (.slice a6 M.length c6) M := fun M hM => by subst hM; exact ⟨cs6, hsv6, hfc6.nw (N5.out.trans n6), fun _ g hg => HX.out g (by have := hnw6 g hg; have := M5.out.size; have := N4.out.size; omega)⟩
        generalize hM : rwith (rwithout L n) (m, ⟨x2, x3⟩) = M at *
        have RR := Lib.hid (hnm M rfl)
        have HMM := Lib.hid hM
        have QQ := Lib.hid Q6.out
        clear hsv6 hfc6 hnw6 hnm hM n6 hr5 HB4 h5 n5
        refine stp_do rfl (by decide) (fun K hK => ?_)
        go_wp2
        (try (refine hK _ _ ?_; clear hK K))
        refine stp_do rfl (by decide) (fun K hK => ?_)
        go_wp2
        (try (refine hK _ _ ?_; clear hK K))
        refine wpNums_nil ?_
        have r : Hid (Dsk.rRename ⟨most, L, left, false⟩ n m = (⟨most, M, max (left - 1) (-1), false⟩, 0)) := Lib.hid (by rw [← HMM.out, show (⟨x2, x3⟩ : DFile) = fileOf L n from HACT.out]; simp [Dsk.rRename, Dsk.op, HOK.out, HTH.out, hz])
        clear r0 r1 r2 r3 rf0 rf1 rf2 rf3
        have hN := (N4.out.trans M6.out).trans' (only_set4q w6 (w.heap.size + 1) (.int .i64 most) (.slice a6 M.length c6) (.int .i64 (max (left - 1) (-1))) (.bool false)) (fun k hk e => by omega)
        have HN9 := Lib.hid hN
        have RR9 := Lib.hid (RR.out.box QQ.out (only_set4q w6 (w.heap.size + 1) (.int .i64 most) (.slice a6 M.length c6) (.int .i64 (max (left - 1) (-1))) (.bool false)))
        obtain ⟨r0, r1, r2, r3, -⟩ := box_cells (heap_set4 QQ.out (.int .i64 most) (.slice a6 M.length c6) (.int .i64 (max (left - 1) (-1))) (.bool false))
        clear hN
        generalize (((w6.setCell ⟨w.heap.size + 1, 0, none⟩ (.int .i64 most)).setCell ⟨w.heap.size + 1, 1, none⟩ (.slice a6 M.length c6)).setCell ⟨w.heap.size + 1, 2, none⟩ (.int .i64 (max (left - 1) (-1)))).setCell ⟨w.heap.size + 1, 3, none⟩ (.bool false) = w9 at HN9 RR9 r0 r1 r2 r3 ⊢
        go_wp2_with fail
        refine bodyPost_ret (v := .tuple #[.agg #[.int .i64 most, .slice a6 M.length c6, .int .i64 (max (left - 1) (-1)), .bool false], .int .i64 0]) (by simp [results, Tryz.results125, go_sem, r0, r1, r2, r3]) rfl ?_
        rw [r.out]
        exact ⟨_, rfl, ⟨_, rfl, RR9.out⟩, HN9.out⟩

end
end Go.Proofs.YtkbenkldfehhlaaGreatDoor

namespace Go.Proofs.YtkbenkldfehhlaaGreatDoor
open Go Go.RowKit Go.Sort
set_option maxRecDepth 100000
set_option maxHeartbeats 3200000
section
variable {X : Nat → Prop}

theorem rAppend_ok {w : World} {v u : Value} {r : Dsk} (hX : ∀ k, w.heap.size ≤ k → X k) (h : RefD X w v r) (hk : ROk r) (n : Str) (hml : n.length ≤ 9223372036854775807) (l : List UInt8) (hl : Bs w u l) (hll : l.length ≤ 16777216) :
    Calls Tryz.prog 39 #[v, .string ⟨n.toArray⟩, u] w fun e w' =>
    ∃ v', e = .returned (.tuple #[v', .int .i64 (r.rAppend n l).2]) ∧ RefD X w' v' (r.rAppend n l).1 ∧ Nw w w' := by
  have HX := Lib.hid hX
  clear hX
  have HR := Lib.hid h
  obtain ⟨sv, rfl, hFL⟩ := h
  obtain ⟨a, cap, rfl, h1, h2, hel⟩ := hFL.elem
  obtain ⟨ua, uc, rfl, -⟩ := hl.len
  have HLB := Lib.hid hl
  obtain ⟨most, L, left, down⟩ := r
  obtain ⟨few, used, most0, most1, arm0, arm1⟩ := hk
  simp only at h1 h2 HR few used most0 most1 arm0 arm1 hel
  have HFL := Lib.hid hFL
  have HE := Lib.hid hel
  simp only at HFL
  clear hFL hel hl
  unfold maxLen at h2
  cases down
  case true =>
    have r : Hid (Dsk.rAppend ⟨most, L, left, true⟩ n l = (⟨most, L, left, true⟩, 15)) := Lib.hid (by simp [Dsk.rAppend, Dsk.op])
    rw [r.out]
    go_enter Tryz.func39, Tryz.ntmps39
    go_wp2
    refine bodyPost_ret (v := .tuple #[.agg #[.int .i64 most, .slice a L.length cap, .int .i64 left, .bool true], .int .i64 15]) (by simp [results, Tryz.results39, go_sem]) rfl ?_
    have hN := ((Nw.refl w).alloc (DB (.int .i64 most) (.slice a L.length cap) (.int .i64 left) (.bool true))).alloc (DB (.int .i64 most) (.slice a L.length cap) (.int .i64 left) (.bool true))
    exact ⟨_, rfl, ⟨_, rfl, HFL.out.nw hN⟩, hN⟩
  case false =>
    have TB := two_boxes w #[.int .i64 most, .slice a L.length cap, .int .i64 left, .bool false] #[.int .i64 0, .slice none 0 0, .int .i64 0, .bool false] 28 28
    go_enter Tryz.func39, Tryz.ntmps39
    go_wp2_with fail
    generalize (w.alloc (.cells #[.int .i64 most, .slice a L.length cap, .int .i64 left, .bool false] 28)).alloc (.cells #[.int .i64 0, .slice none 0 0, .int .i64 0, .bool false] 28) = W0 at TB ⊢
    obtain ⟨t1, t2, t3, t4⟩ := TB
    have T1 := Lib.hid t1
    have T2 := Lib.hid t2
    have T3 := Lib.hid t3
    have T4 := Lib.hid t4
    clear t1 t2 t3 t4
    refine (rRight_ok n _ hml).mono ?_
    rintro e w9 ⟨rfl, rfl⟩
    cases hok : okName n
    case false =>
      have r : Hid (Dsk.rAppend ⟨most, L, left, false⟩ n l = (⟨most, L, left, false⟩, 13)) := Lib.hid (by simp [Dsk.rAppend, Dsk.op, Dsk.mayAppend, hok])
      obtain ⟨b0, b1, b2, b3, bf0, bf1, bf2, bf3⟩ := box_cells T2.out
      obtain ⟨r0, r1, r2, r3, rf0, rf1, rf2, rf3⟩ := box_cells T3.out
      have hs1 : w.heap.size + 1 < W0.heap.size := by have := T4.out; omega
      clear hok
      go_wp2
      refine bodyPost_ret (v := .tuple #[.agg #[.int .i64 most, .slice a L.length cap, .int .i64 left, .bool false], .int .i64 13]) (by simp [results, Tryz.results39, go_sem, r0, r1, r2, r3]) rfl ?_
      have hN := T1.out.trans' (only_set4q W0 (w.heap.size + 1) (.int .i64 most) (.slice a L.length cap) (.int .i64 left) (.bool false)) (fun k hk e => by omega)
      rw [r.out]
      exact ⟨_, rfl, ⟨_, rfl, HFL.out.nw hN⟩, hN⟩
    case true =>
    have HOK := Lib.hid hok
    clear hok
    obtain ⟨b0, b1, b2, b3, bf0, bf1, bf2, bf3⟩ := box_cells T2.out
    have hs0 : w.heap.size + 1 < W0.heap.size := by have := T4.out; omega
    go_wp2_with fail
    clear b0 b1 b2 b3 bf0 bf1 bf2 bf3
    refine (rFind_ok (HR.out.nw T1.out) n).mono ?_
    rintro e w1 ⟨rfl, n1⟩
    have N1 := Lib.hid (T1.out.trans n1)
    have B1 := Lib.hid (n1.at_ T2.out)
    have Q1 := Lib.hid (n1.at_ T3.out)
    have hs1 : w.heap.size + 1 < w1.heap.size := by have := n1.size; have := T4.out; omega
    obtain ⟨b0, b1, b2, b3, bf0, bf1, bf2, bf3⟩ := box_cells B1.out
    have d0 := cellG b0
    have d1 := cellG b1
    have d2 := cellG b2
    have d3 := cellG b3
    simp only
    clear n1
    have HU : Hid (∀ p : Regrown, Calls Tryz.prog 51 #[.agg #[.int .i64 most, .slice a L.length cap, .int .i64 left, .bool false]] (grow (redrawn w1 p.d) p.os) fun e w'' => e = .returned (.int .i64 (usedF L)) ∧ ∃ p' : Regrown, w'' = grow (redrawn w1 p'.d) p'.os) := Lib.hid (fun p => quiet_nw fun w2 hw2 => rUsed_ok ((HR.out.nw N1.out).nw hw2) (by show usedF L ≤ _; omega))
    obtain ⟨i, hi⟩ : ∃ i : Int, rfindI L n = i := ⟨_, rfl⟩
    have HI := Lib.hid hi
    rw [hi]
    clear hi
    have hwr : IntKind.i64.wrap ((usedF L : Int) + (l.length : Int)) = (usedF L : Int) + (l.length : Int) := IntWalk.i64_in _ (by omega)
    have hi0 : Hid ((i < 0) ↔ n ∉ namesF L) := Lib.hid (by
      rw [← HI.out]
      by_cases hn : n ∈ namesF L
      · obtain ⟨k, hk, hfi, -⟩ := rfind_mem hn
        rw [hfi]; simp [hn]
      · rw [rfind_no hn]; simp [hn])
    have hfull : ∃ full : Bool, Hid (full = true ↔ (most < ((usedF L + l.length : Nat) : Int) ∨ (n ∉ namesF L ∧ 200 ≤ L.length))) ∧ Hid (full = true ↔ (most < (usedF L : Int) + (l.length : Int) ∨ (i < 0 ∧ 200 ≤ L.length))) :=
      ⟨decide (most < ((usedF L + l.length : Nat) : Int) ∨ (n ∉ namesF L ∧ 200 ≤ L.length)), Lib.hid (by simp), Lib.hid (by rw [decide_eq_true_iff, hi0.out, Int.natCast_add])⟩
    obtain ⟨full, HF1, HF2⟩ := hfull
    go_upto_region 6 with fail
    go_cut [38] (fun s38 wx => s38 = .bool full ∧ Nw w1 wx)
    case first =>
      by_cases c1 : most < (usedF L : Int) + (l.length : Int)
      · have hg : decide (most < (usedF L : Int) + (l.length : Int)) = true := by simp; omega
        obtain rfl : full = true := HF2.out.2 (.inl c1)
        refine wp_region_quiet_below (by kernel_rfl) (by kernel_rfl) ?_
        repeat (first | go_big_quiet_step (exact HU.out _) | quiet_step (exact HU.out _))
        refine wpQuiet_nil ?_
        intro w2 hw2
        have hw2 := Lib.hid (Nw.of_regrown hw2)
        go_wp2_with fail
        go_meet
        case rel => exact ⟨rfl, hw2.out⟩
      · have hg : decide (most < (usedF L : Int) + (l.length : Int)) = false := by simp; omega
        by_cases c2 : i < 0
        · have hg2 : decide (i < 0) = true := by simpa using c2
          by_cases c3 : 200 ≤ L.length
          · have hg3 : decide ((200 : Int) ≤ (L.length : Int)) = true := by simp; omega
            have hg4 : decide (200 ≤ L.length) = true := by simp; omega
            obtain rfl : full = true := HF2.out.2 (.inr ⟨c2, c3⟩)
            refine wp_region_quiet_below (by kernel_rfl) (by kernel_rfl) ?_
            repeat (first | go_big_quiet_step (exact HU.out _) | quiet_step (exact HU.out _))
            refine wpQuiet_nil ?_
            intro w2 hw2
            have hw2 := Lib.hid (Nw.of_regrown hw2)
            go_wp2_with fail
            go_meet
            case rel => exact ⟨rfl, hw2.out⟩
          · have hg3 : decide ((200 : Int) ≤ (L.length : Int)) = false := by simp; omega
            have hg4 : decide (200 ≤ L.length) = false := by simp; omega
            obtain rfl : full = false := by
              cases full
              · rfl
              · exact absurd (HF2.out.1 rfl) (by omega)
            refine wp_region_quiet_below (by kernel_rfl) (by kernel_rfl) ?_
            repeat (first | go_big_quiet_step (exact HU.out _) | quiet_step (exact HU.out _))
            refine wpQuiet_nil ?_
            intro w2 hw2
            have hw2 := Lib.hid (Nw.of_regrown hw2)
            go_wp2_with fail
            go_meet
            case rel => exact ⟨rfl, hw2.out⟩
        · have hg2 : decide (i < 0) = false := by simp; omega
          obtain rfl : full = false := by
            cases full
            · rfl
            · exact absurd (HF2.out.1 rfl) (by omega)
          refine wp_region_quiet_below (by kernel_rfl) (by kernel_rfl) ?_
          repeat (first | go_big_quiet_step (exact HU.out _) | quiet_step (exact HU.out _))
          refine wpQuiet_nil ?_
          intro w2 hw2
          have hw2 := Lib.hid (Nw.of_regrown hw2)
          go_wp2_with fail
          go_meet
          case rel => exact ⟨rfl, hw2.out⟩
    case rest =>
      obtain ⟨rfl, n2⟩ := hcut
      have N2 := Lib.hid (N1.out.trans n2)
      have B2 := Lib.hid (n2.at_ B1.out)
      have Q2 := Lib.hid (n2.at_ Q1.out)
      have hs2 : w.heap.size + 1 < wc.heap.size := by have := n2.size; omega
      clear b0 b1 b2 b3 bf0 bf1 bf2 bf3 d0 d1 d2 d3 hwr n2
      obtain ⟨b0, b1, b2, b3, bf0, bf1, bf2, bf3⟩ := box_cells B2.out
      obtain ⟨r0, r1, r2, r3, rf0, rf1, rf2, rf3⟩ := box_cells Q2.out
      cases full
      case true =>
        have r : Hid (Dsk.rAppend ⟨most, L, left, false⟩ n l = (⟨most, L, left, false⟩, 5)) := Lib.hid (by
          have hc := HF1.out.1 rfl
          have hm : Dsk.mayAppend ⟨most, L, left, false⟩ n l = 5 := by unfold Dsk.mayAppend; rw [if_pos HOK.out, if_pos hc]
          simp [Dsk.rAppend, Dsk.op, hm])
        go_wp2
        refine bodyPost_ret (v := .tuple #[.agg #[.int .i64 most, .slice a L.length cap, .int .i64 left, .bool false], .int .i64 5]) (by simp [results, Tryz.results39, go_sem, r0, r1, r2, r3]) rfl ?_
        have hN := N2.out.trans' (only_set4q wc (w.heap.size + 1) (.int .i64 most) (.slice a L.length cap) (.int .i64 left) (.bool false)) (fun k hk e => by omega)
        rw [r.out]
        exact ⟨_, rfl, ⟨_, rfl, HFL.out.nw hN⟩, hN⟩
      case false =>
        have HM : Hid (Dsk.mayAppend ⟨most, L, left, false⟩ n l = 0) := Lib.hid (by
          have hc : ¬ (most < ((usedF L + l.length : Nat) : Int) ∨ (n ∉ namesF L ∧ 200 ≤ L.length)) := fun h => by have := HF1.out.2 h; cases this
          unfold Dsk.mayAppend; rw [if_pos HOK.out, if_neg hc])
        go_wp2_with fail
        refine (opn_ok _ most left a L.length cap false arm0 arm1).mono ?_
        rintro e w3 ⟨n3, he⟩
        have N3 := Lib.hid (N2.out.trans n3)
        have B3 := Lib.hid (n3.at_ B2.out)
        have Q3 := Lib.hid (n3.at_ Q2.out)
        have hs3 : w.heap.size + 1 < w3.heap.size := by have := n3.size; omega
        clear b0 b1 b2 b3 bf0 bf1 bf2 bf3 r0 r1 r2 r3 rf0 rf1 rf2 rf3 n3
        obtain ⟨b0, b1, b2, b3, bf0, bf1, bf2, bf3⟩ := box_cells B3.out
        obtain ⟨r0, r1, r2, r3, rf0, rf1, rf2, rf3⟩ := box_cells Q3.out
        by_cases hz : left = 0
        · have r : Hid (Dsk.rAppend ⟨most, L, left, false⟩ n l = (⟨most, L, -1, true⟩, 15)) := Lib.hid (by have hm := HM.out; rw [hz] at hm; simp [Dsk.rAppend, Dsk.op, hm, hz])
          rw [if_pos hz] at he
          subst he
          clear hz
          go_wp2
          refine bodyPost_ret (v := .tuple #[.agg #[.int .i64 most, .slice a L.length cap, .int .i64 (-1), .bool true], .int .i64 15]) (by simp [results, Tryz.results39, go_sem, r0, r1, r2, r3]) rfl ?_
          have hN := (N3.out.trans' (only_set4 w3 w.heap.size (.int .i64 most) (.slice a L.length cap) (.int .i64 (-1)) (.bool true)) (fun k hk e => by omega)).trans' (only_set4q _ (w.heap.size + 1) (.int .i64 most) (.slice a L.length cap) (.int .i64 (-1)) (.bool true)) (fun k hk e => by omega)
          rw [r.out]
          exact ⟨_, rfl, ⟨_, rfl, HFL.out.nw hN⟩, hN⟩
        · rw [if_neg hz] at he
          subst he
          have HZ := Lib.hid hz
          clear hz
          go_upto_region 11 with fail
          generalize hW3 : (((w3.setCell ⟨w.heap.size, 0, none⟩ (.int .i64 most)).setCell ⟨w.heap.size, 1, none⟩ (.slice a L.length cap)).setCell ⟨w.heap.size, 2, none⟩ (.int .i64 (max (left - 1) (-1)))).setCell ⟨w.heap.size, 3, none⟩ (.bool false) = W3
          have HO3 : Hid (Only (fun k => k = w.heap.size) w3 W3) := Lib.hid (hW3 ▸ only_set4 w3 w.heap.size _ _ _ _)
          have BW : Hid (W3.heap[w.heap.size]? = some (DB (.int .i64 most) (.slice a L.length cap) (.int .i64 (max (left - 1) (-1))) (.bool false))) := Lib.hid (hW3 ▸ heap_set4 B3.out _ _ _ _)
          have QW := Lib.hid (HO3.out.at_ Q3.out (by omega))
          have NW3 := Lib.hid (N3.out.trans' HO3.out (fun k hk e => by omega))
          have hsW : w.heap.size + 1 < W3.heap.size := by have := HO3.out.size; omega
          clear hW3 b0 b1 b2 b3 bf0 bf1 bf2 bf3 r0 r1 r2 r3 rf0 rf1 rf2 rf3
          obtain ⟨pf, hpf⟩ : ∃ pf, pf = W3.heap.size := ⟨_, rfl⟩
          go_upto_if 51 with fail
          have F4 := Lib.hid (heap_alloc_new W3 (.cells #[.string ⟨n.toArray⟩, .slice none 0 0, .int .i64 0] 104))
          have NA : Hid (Nw W3 (W3.alloc (.cells #[.string ⟨n.toArray⟩, .slice none 0 0, .int .i64 0] 104))) := Lib.hid ((Nw.refl W3).alloc _)
          rw [← hpf] at F4
          simp only [← hpf]
          generalize W3.alloc (.cells #[.string ⟨n.toArray⟩, .slice none 0 0, .int .i64 0] 104) = W4 at F4 NA ⊢
          have N4 := Lib.hid (NW3.out.trans NA.out)
          have B4 := Lib.hid (NA.out.at_ BW.out)
          have Q4 := Lib.hid (NA.out.at_ QW.out)
          have hpf4 : pf < W4.heap.size := lt_of_block F4.out
          have hpf3 : w.heap.size + 1 < pf := by omega
          clear hpf
          go_cut [] (fun wx => ∃ (xa : Option Addr) (xc : Nat), Only (fun k => k = pf) W4 wx ∧ wx.heap[pf]? = some (.cells #[.string ⟨n.toArray⟩, .slice xa (fileOf L n).bytes.length xc, .int .i64 (fileOf L n).synced] 104 (0, 0)) ∧ Bs w (.slice xa (fileOf L n).bytes.length xc) (fileOf L n).bytes)
          case first =>
            by_cases hn : n ∈ namesF L
            · obtain ⟨k, hk, hfi, hkn, hfo⟩ := rfind_mem hn
              obtain ⟨g, o, b, rfl, e0, e1, e2, hb⟩ := HE.out k hk
              obtain ⟨xa, xc, rfl, hxl, -⟩ := hb.1.elems
              obtain rfl : i = (k : Int) := HI.out.symm.trans hfi
              have c0 := N4.out.cell e0
              have c1 := N4.out.cell e1
              have c2 := N4.out.cell e2
              rw [hkn] at c0
              have HBX := Lib.hid hb.1
              have HFO := Lib.hid hfo
              clear hb e0 e1 e2 hkn hfo hxl hfi hn
              generalize L[k] = x at *
              obtain ⟨x1, x2, x3⟩ := x
              simp only at c1 c2 HFO HBX
              obtain ⟨f0, f1, f2, ff0, ff1, ff2⟩ := box_cells3 F4.out
              obtain ⟨b0, b1, b2, b3, bf0, bf1, bf2, bf3⟩ := box_cells B4.out
              have hks : (k : Int) < (L.length : Int) := by omega
              have hpg : g < w.heap.size := World.block_lt_of_cell? w _ (by
                obtain ⟨g', o', b', he, e0, -⟩ := HE.out k hk
                cases he; exact e0)
              have hne : ¬ pf = g := by omega
              have hne2 : ¬ g = pf := by omega
              go_wp2_with fail
              have hO : Only (fun k => k = pf) W4 (((W4.setCell ⟨pf, 0, none⟩ (.string ⟨n.toArray⟩)).setCell ⟨pf, 1, none⟩ (.slice xa x2.length xc)).setCell ⟨pf, 2, none⟩ (.int .i64 x3)) := by
                refine Only.setCell (S := fun k => k = pf) (p := ⟨pf, 2, none⟩) ?_ (fun _ => rfl) _
                refine Only.setCell (S := fun k => k = pf) (p := ⟨pf, 1, none⟩) ?_ (fun _ => rfl) _
                exact Only.setCell (S := fun k => k = pf) (p := ⟨pf, 0, none⟩) (Only.refl W4) (fun _ => rfl) _
              have hH : (((W4.setCell ⟨pf, 0, none⟩ (.string ⟨n.toArray⟩)).setCell ⟨pf, 1, none⟩ (.slice xa x2.length xc)).setCell ⟨pf, 2, none⟩ (.int .i64 x3)).heap[pf]? = some (.cells #[.string ⟨n.toArray⟩, .slice xa x2.length xc, .int .i64 x3] 104 (0, 0)) := by
                have := heap_setCell_at (heap_setCell_at (heap_setCell_at F4.out 0 (.string ⟨n.toArray⟩)) 1 (.slice xa x2.length xc)) 2 (.int .i64 x3)
                simpa using this
              go_meet
              case rel => exact ⟨xa, xc, hO, by rw [HFO.out]; exact hH, by rw [HFO.out]; exact HBX.out⟩
            · have hfo : fileOf L n = ⟨[], 0⟩ := by simp [fileOf, (getF_none _ _).2 hn]
              obtain rfl : i = -1 := HI.out.symm.trans (rfind_no hn)
              have HFO := Lib.hid hfo
              clear hn hfo
              go_wp2_with fail
              go_meet
              case rel => exact ⟨none, 0, Only.refl _, by rw [HFO.out]; exact F4.out, by rw [HFO.out]; exact .inl ⟨_, rfl, rfl⟩⟩
          case rest =>
            obtain ⟨xa, xc, hO5, hF5, hB5⟩ := hcut
            have F5 := Lib.hid hF5
            have BX := Lib.hid hB5
            have N5 := Lib.hid (N4.out.trans' hO5 (fun k hk e => by omega))
            have B5 := Lib.hid (hO5.at_ B4.out (by omega))
            have Q5 := Lib.hid (hO5.at_ Q4.out (by omega))
            have hpf5 : pf < wc.heap.size := lt_of_block hF5
            have hul := rfile_le L n
            obtain ⟨J, hJ⟩ : ∃ J, J = (fileOf L n).bytes ++ l := ⟨_, rfl⟩
            have JO := joined_ok (BX.out.nw N5.out) (HLB.out.nw N5.out) (by omega)
            rw [← hJ] at JO
            have HJ := Lib.hid hJ
            have hjl : J.length ≤ 33554432 := by rw [hJ, List.length_append]; omega
            have JO := Lib.hid JO
            clear hO5 hF5 hB5 hJ hul
            obtain ⟨f0, f1, f2, ff0, ff1, ff2⟩ := box_cells3 F5.out
            generalize hfs : fileOf L n = fn at *
            have HFS := Lib.hid hfs
            clear hfs
            go_wp2_with fail
            refine JO.out.mono ?_
            rintro e w6 ⟨v6, rfl, hv6, n6, hnew6⟩
            have V6 := Lib.hid hv6
            have NEW6 := Lib.hid hnew6
            have N6 := Lib.hid n6
            obtain ⟨a6, c6, rfl, -⟩ := hv6.len
            clear f0 f1 f2 ff0 ff1 ff2 hv6 n6 hnew6
            obtain ⟨f0, f1, f2, ff0, ff1, ff2⟩ := box_cells3 (N6.out.at_ F5.out)
            go_upto_region 15 with fail
            generalize hW7 : w6.setCell ⟨pf, 1, none⟩ (.slice a6 J.length c6) = W7
            have HO7 : Hid (Only (fun k => k = pf) w6 W7) := Lib.hid (by
              rw [← hW7]
              exact Only.setCell (S := fun k => k = pf) (p := ⟨pf, 1, none⟩) (Only.refl w6) (fun _ => rfl) _)
            have F7 : Hid (W7.heap[pf]? = some (.cells #[.string ⟨n.toArray⟩, .slice a6 J.length c6, .int .i64 fn.synced] 104 (0, 0))) := Lib.hid (by
              rw [← hW7]
              have := heap_setCell_at (N6.out.at_ F5.out) 1 (.slice a6 J.length c6)
              simpa using this)
            have NB : Hid (Nw w W7) := Lib.hid ((N5.out.trans N6.out).trans' HO7.out (fun k hk e => by omega))
            have QB : Hid (W7.heap[w.heap.size + 1]? = _) := Lib.hid (HO7.out.at_ (N6.out.at_ Q5.out) (by omega))
            have PB : Hid (W7.heap[w.heap.size]? = _) := Lib.hid (HO7.out.at_ (N6.out.at_ B5.out) (by omega))
            have BB : Hid (BsX X W7 (.slice a6 J.length c6) J) := Lib.hid (by
              refine ⟨?_, fun _ g hg => HX.out g (by have := NEW6.out g hg; have := N5.out.size; omega)⟩
              have h1 := V6.out.keep HO7.out.size (fun g hg => HO7.out.block g (V6.out.lt g hg) (fun e => by have := NEW6.out g hg; omega))
              exact Vec.rd (f := u8) h1)
            have hs7 : w.heap.size + 1 < W7.heap.size := by have := HO7.out.size; have := N6.out.size; omega
            have hpf7 : pf < W7.heap.size := lt_of_block F7.out
            clear hW7 f0 f1 f2 ff0 ff1 ff2
            have RX : RefD X W7 (.agg #[.int .i64 most, .slice a L.length cap, .int .i64 (max (left - 1) (-1)), .bool false]) ⟨most, L, max (left - 1) (-1), false⟩ := ⟨_, rfl, HFL.out.nw NB.out⟩
            have RW := Lib.hid (rwith_ok RX.b (Nw.refl W7) n ⟨J, fn.synced⟩ a6 c6 BB.out (by show L.length ≤ 100000; omega))
            clear RX
            obtain ⟨b0, b1, b2, b3, bf0, bf1, bf2, bf3⟩ := box_cells PB.out
            obtain ⟨f0, f1, f2, ff0, ff1, ff2⟩ := box_cells3 F7.out
            go_wp2_with fail
            refine RW.out.mono ?_
            rintro e w8 ⟨v8, rfl, hr8, n8⟩
            obtain ⟨sv8, cs8, rfl, hsv8, hfc8, hnw8⟩ := hr8
            obtain ⟨a8, c8, rfl, -⟩ := hsv8.len
            generalize hM : rwith L (n, ⟨J, fn.synced⟩) = M at *
            have RR : Hid (FL X w8 (.slice a8 M.length c8) M) := Lib.hid ⟨cs8, hsv8, hfc8.nw n8, fun _ g hg => HX.out g (by have := hnw8 g hg; have := NB.out.size; omega)⟩
            have HMM := Lib.hid hM
            have N8 := Lib.hid (NB.out.trans n8)
            have Q8 := Lib.hid (n8.at_ QB.out)
            have hs8 : w.heap.size + 1 < w8.heap.size := by have := n8.size; omega
            clear b0 b1 b2 b3 bf0 bf1 bf2 bf3 f0 f1 f2 ff0 ff1 ff2 hsv8 hfc8 n8 hM
            obtain ⟨r0, r1, r2, r3, rf0, rf1, rf2, rf3⟩ := box_cells Q8.out
            have r : Hid (Dsk.rAppend ⟨most, L, left, false⟩ n l = (⟨most, M, max (left - 1) (-1), false⟩, 0)) := Lib.hid (by rw [← HMM.out, HJ.out, ← HFS.out]; simp [Dsk.rAppend, Dsk.op, HM.out, HZ.out])
            simp only
            go_wp2
            refine bodyPost_ret (v := .tuple #[.agg #[.int .i64 most, .slice a8 M.length c8, .int .i64 (max (left - 1) (-1)), .bool false], .int .i64 0]) (by simp [results, Tryz.results39, go_sem, r0, r1, r2, r3]) rfl ?_
            have hN := N8.out.trans' (only_set4q w8 (w.heap.size + 1) (.int .i64 most) (.slice a8 M.length c8) (.int .i64 (max (left - 1) (-1))) (.bool false)) (fun k hk e => by omega)
            rw [r.out]
            exact ⟨_, rfl, ⟨_, rfl, RR.out.box Q8.out (only_set4q w8 (w.heap.size + 1) (.int .i64 most) (.slice a8 M.length c8) (.int .i64 (max (left - 1) (-1))) (.bool false))⟩, hN⟩
end
end Go.Proofs.YtkbenkldfehhlaaGreatDoor

namespace Go.Proofs.YtkbenkldfehhlaaGreatDoor
open Go Go.RowKit Go.Sort
set_option maxRecDepth 100000
set_option maxHeartbeats 3200000
section
variable {X : Nat → Prop}
def Off (g : Nat) : List Value → List (Str × DFile) → Prop
  | _, [] => True
  | cs, x :: L => ∃ a b c cs', cs = a :: b :: c :: cs' ∧ (x.2.bytes ≠ [] → b.ownBlock ≠ some g) ∧ Off g cs' L
theorem FCells.keepOff {w w' : World} {g : Nat} (hO : Only (fun k => k = g) w w') : ∀ {L : List (Str × DFile)} {cs : List Value}, FCells X w cs L → Off g cs L → FCells X w' cs L
  | [], _, h, _ => h
  | x :: L, cs, ⟨b, cs', h1, h2, h3⟩, ⟨a1, b1, c1, cs1, e1, e2, e3⟩ => by
    rw [h1] at e1
    injection e1 with e10 e1
    injection e1 with e11 e1
    injection e1 with e12 e1
    subst e11 e1
    exact ⟨b, cs', h1, ⟨h2.1.keep hO (fun hne k hk e => e2 hne (by rw [hk, e])), h2.2⟩, FCells.keepOff hO h3 e3⟩
theorem Off.fresh {w : World} {g : Nat} (hg : w.heap.size ≤ g) : ∀ {L : List (Str × DFile)} {cs : List Value}, FCells X w cs L → Off g cs L
  | [], _, _ => trivial
  | x :: L, cs, ⟨b, cs', h1, h2, h3⟩ => ⟨_, b, _, cs', h1, fun hne e => by have := h2.1.lt hne g e; omega, Off.fresh hg h3⟩
theorem Off.append {g : Nat} : ∀ {L M : List (Str × DFile)} {cs ds : List Value}, Off g cs L → Off g ds M → cs.length = L.length * 3 → Off g (cs ++ ds) (L ++ M)
  | [], _, cs, _, _, h', hl => by
    obtain rfl : cs = [] := List.eq_nil_of_length_eq_zero (by simpa using hl)
    exact h'
  | x :: L, M, cs, ds, ⟨a, b, c, cs', h1, h2, h3⟩, h', hl => ⟨a, b, c, cs' ++ ds, by rw [h1]; rfl, h2, Off.append h3 h' (by rw [h1] at hl; simp at hl; omega)⟩
theorem Off.one {g : Nat} {x : Str × DFile} {a b c : Value} (h : x.2.bytes ≠ [] → b.ownBlock ≠ some g) : Off g [a, b, c] [x] := ⟨a, b, c, [], rfl, h, trivial⟩
theorem rcrash_len : ∀ (L : List (Str × DFile)) (ks : List Int), (rcrashF ks L).length = L.length
  | [], _ => rfl
  | (n, f) :: L, ks => by simp [rcrashF, rcrash_len L]
theorem rcrash_get : ∀ (L : List (Str × DFile)) (ks : List Int) (i : Nat) (h : i < L.length), (rcrashF ks L)[i]'(by rw [rcrash_len]; exact h) = (L[i].1, leaves L[i].2 (ks.getD i 0))
  | [], _, i, h => absurd h (by simp)
  | (n, f) :: L, ks, 0, h => by cases ks <;> simp [rcrashF]
  | (n, f) :: L, ks, i + 1, h => by
    have := rcrash_get L ks.tail i (by simpa using h)
    cases ks <;> simpa [rcrashF] using this
theorem rcrash_take (L : List (Str × DFile)) (ks : List Int) (i : Nat) (h : i < L.length) : (rcrashF ks L).take (i + 1) = (rcrashF ks L).take i ++ [(L[i].1, leaves L[i].2 (ks.getD i 0))] := by
  rw [List.take_succ_eq_append_getElem (by rw [rcrash_len]; exact h), rcrash_get]
structure CGrow (X : Nat → Prop) (W1 wr : World) (v : Value) (acc : List (Str × DFile)) (cs : List Value) : Prop where
  vec : Vec 3 wr v acc.length cs
  cells : FCells X wr cs acc
  off : ∀ g, v.ownBlock = some g → Off g cs acc
  nw : Nw W1 wr
  new : ∀ g, v.ownBlock = some g → W1.heap.size ≤ g
theorem CGrow.push {W1 wr wa w' : World} {v v' b : Value} {acc : List (Str × DFile)} {cs : List Value} {n : Str} {f : DFile} (h : CGrow X W1 wr v acc cs) (hn : Nw wr wa) (hb : BsX X wa b f.bytes) (hbn : ∀ g, b.ownBlock = some g → wr.heap.size ≤ g)
    (hv : Vec 3 w' v' (acc.length + 1) (cs ++ [.string ⟨n.toArray⟩, b, .int .i64 f.synced]))
    (ho : Only (fun k => v.ownBlock = some k) wa w') (hf : v'.ownBlock = v.ownBlock ∨ ∀ g, v'.ownBlock = some g → wa.heap.size ≤ g) : CGrow X W1 w' v' (acc ++ [(n, f)]) (cs ++ [.string ⟨n.toArray⟩, b, .int .i64 f.synced]) := by
  have hlen := h.cells.len
  have hc0 : FCells X wa cs acc := h.cells.nw hn
  have hvl : ∀ g, v.ownBlock = some g → g < wr.heap.size := h.vec.lt
  have hc1 : FCells X w' cs acc := by
    cases hvb : v.ownBlock with
    | none => exact hc0.nw (ho.mono fun k hk e => by rw [hvb] at e; cases e)
    | some g => exact FCells.keepOff (ho.mono fun k hk e => by rw [hvb] at e; exact (Option.some.inj e).symm) hc0 (h.off g hvb)
  have hb1 : BsX X w' b f.bytes := ⟨hb.1.keep ho (fun hne g hg e => by have := hvl g e; have := hbn g hg; omega), hb.2⟩
  refine ⟨by rw [List.length_append]; exact hv, hc1.append (FCells.one hb1), fun g hg => ?_, (h.nw.trans hn).trans' ho (fun k hk e => by have := h.new k e; omega), fun g hg => ?_⟩
  · refine Off.append ?_ (Off.one (fun hne e => ?_)) hlen
    · rcases hf with hf | hf
      · exact h.off g (hf ▸ hg)
      · exact Off.fresh (hf g hg) hc0
    · rcases hf with hf | hf
      · have := hvl g (hf ▸ hg); have := hbn g e; omega
      · have := hf g hg; have := hb.1.lt hne g e; omega
  · rcases hf with hf | hf
    · exact h.new g (hf ▸ hg)
    · exact Nat.le_trans (h.nw.trans hn).size (hf g hg)

theorem rCrash_ok {w : World} {v u : Value} {r : Dsk} (hX : ∀ k, w.heap.size ≤ k → X k) (h : RefD X w v r) (hk : ROk r) (hsy : ∀ x ∈ r.files, x.2.synced ≤ x.2.bytes.length) (ks : List Int) (hks : Rd i64v w u ks) :
    Calls Tryz.prog 35 #[v, u] w fun e w' => ∃ v', e = .returned v' ∧ RefD X w' v' (r.rCrash ks) ∧ Nw w w' := by
  have HX := Lib.hid hX
  clear hX
  obtain ⟨sv, rfl, hFL⟩ := h
  obtain ⟨a, cap, rfl, h1, h2, hel⟩ := hFL.elem
  obtain ⟨most, L, left, down⟩ := r
  obtain ⟨few, used, most0, most1, arm0, arm1⟩ := hk
  simp only at h1 h2 hel few used hsy
  have HFL := Lib.hid hFL
  have HE := Lib.hid hel
  have HSY := Lib.hid hsy
  simp only at HFL
  clear hFL hel hsy
  unfold maxLen at h2
  obtain ⟨ua, uc, rfl, hu1, hu2, hu3⟩ := hks.elems
  have HK := Lib.hid hu3
  clear hks hu3
  unfold maxLen at hu2
  obtain ⟨i0, hi, hz0, hz1, hz2⟩ := info_parts infoFile
  have HI := Lib.hid hi
  have HZ0 := Lib.hid hz0
  have HZ1 := Lib.hid hz1
  have HZ2 := Lib.hid hz2
  clear hi hz0 hz1 hz2
  have TB := two_boxes w #[.int .i64 most, .slice a L.length cap, .int .i64 left, .bool down] #[.int .i64 0, .slice none 0 0, .int .i64 0, .bool false] 28 28
  go_enter Tryz.func35, Tryz.ntmps35
  go_wp2
  generalize (w.alloc (.cells #[.int .i64 most, .slice a L.length cap, .int .i64 left, .bool down] 28)).alloc (.cells #[.int .i64 0, .slice none 0 0, .int .i64 0, .bool false] 28) = W1 at TB ⊢
  obtain ⟨t1, t2, t3, t4⟩ := TB
  have HN1 := Lib.hid t1
  have HB1 := Lib.hid t2
  have HB2 := Lib.hid t3
  have HS1 := Lib.hid t4
  clear t1 t2 t3 t4
  go_loopw [5, 6] (fun v i wr => ∃ (k : Nat) (cs : List Value), k ≤ L.length ∧ i = .int .i64 k ∧ CGrow X W1 wr v ((rcrashF ks L).take k) cs) (fun _ i _ => L.length - (intOf i).toNat)
  case atStart => exact ⟨0, [], Nat.zero_le _, rfl, ⟨Vec.nil, rfl, (fun g hg => by cases hg), Nw.refl _, (fun g hg => by cases hg)⟩⟩
  case round =>
    obtain ⟨k, cs, hk, rfl, hgr⟩ := hrel
    have HG := Lib.hid hgr
    clear hgr
    have hal : ((rcrashF ks L).take k).length = k := by rw [List.length_take, rcrash_len]; omega
    have HAL := Lib.hid hal
    clear hal
    obtain ⟨b0, b1, b2, b3, bf0, bf1, bf2, bf3⟩ := box_cells (HG.out.nw.at_ HB1.out)
    by_cases hlt : k < L.length
    · obtain ⟨g, o, b, rfl, c0, c1, c2, hb⟩ := HE.out k hlt
      have hN := HN1.out.trans HG.out.nw
      have c0 := hN.cell c0
      have c1 := hN.cell c1
      have c2 := hN.cell c2
      obtain ⟨xa, xc, rfl, hxl, hxm, -⟩ := hb.1.elems
      have HBX := Lib.hid hb.1
      have hle := HSY.out L[k] (List.getElem_mem hlt)
      have hul : L[k].2.bytes.length ≤ 16777216 := by
        have := usedF_take L k hlt
        have := usedF_le L (k + 1)
        omega
      have hrt := rcrash_take L ks k hlt
      unfold maxLen at hxm
      clear hb hN
      generalize L[k] = x at *
      obtain ⟨x1, x2, x3⟩ := x
      simp only at c0 c1 c2 hle hul hxl HBX hrt
      have HRT := Lib.hid hrt
      clear hrt
      have HK2 : Hid (ks.length ≤ k → ks.getD k 0 = 0) := Lib.hid (fun h => by simp [List.getD, List.getElem?_eq_none h])
      go_wp2
      have F2 := Lib.hid (heap_alloc_new wr (.cells #[.string ⟨x1.toArray⟩, .slice xa x2.length xc, .int .i64 x3] 104))
      have NA := Lib.hid ((Nw.refl wr).alloc (.cells #[.string ⟨x1.toArray⟩, .slice xa x2.length xc, .int .i64 x3] 104))
      obtain ⟨pf, hpf⟩ : ∃ pf, pf = wr.heap.size := ⟨_, rfl⟩
      rw [← hpf] at F2
      simp only [← hpf]
      generalize wr.alloc (.cells #[.string ⟨x1.toArray⟩, .slice xa x2.length xc, .int .i64 x3] 104) = W2 at F2 NA ⊢
      have HPF := Lib.hid hpf
      clear hpf c0 c1 c2 b0 b1 b2 b3 bf0 bf1 bf2 bf3
      go_loop [8, 9] (fun nv kv => ∃ (m j : Nat), nv = .int .i64 m ∧ kv = .int .i64 j ∧ m = x3 + j ∧ m ≤ x2.length ∧ (j : Int) ≤ max (ks.getD k 0) 0) (fun nv _ => x2.length - (intOf nv).toNat)
      case atStart => exact ⟨x3, 0, rfl, rfl, rfl, hle, by omega⟩
      case round =>
        obtain ⟨m, j, rfl, rfl, hm, hml, hjk⟩ := hrel
        have hmj := Lib.hid hm
        have hjm : j ≤ m := by omega
        obtain ⟨f0, f1, f2, ff0, ff1, ff2⟩ := box_cells3 F2.out
        obtain ⟨N, hN⟩ : ∃ N, N = x3 + min (ks.getD k 0).toNat (x2.length - x3) := ⟨_, rfl⟩
        have key : (∃ (hki : k < ks.length), (j : Int) < ks[k] ∧ m < x2.length) ∨ (m = N ∧ (ks.length ≤ k ∨ ∃ (hki : k < ks.length), (ks[k] ≤ (j : Int) ∨ ((j : Int) < ks[k] ∧ x2.length ≤ m)))) := by
          by_cases hki : k < ks.length
          · have e : ks.getD k 0 = ks[k] := by simp [List.getD, hki]
            rw [e] at hN hjk
            by_cases h1 : (j : Int) < ks[k]
            · by_cases h2 : m < x2.length
              · exact .inl ⟨hki, h1, h2⟩
              · exact .inr ⟨by omega, .inr ⟨hki, .inr ⟨h1, by omega⟩⟩⟩
            · exact .inr ⟨by omega, .inr ⟨hki, .inl (by omega)⟩⟩
          · have e := HK2.out (by omega)
            rw [e] at hN hjk
            exact .inr ⟨by omega, .inl (by omega)⟩
        have HNN := Lib.hid hN
        have HJK := Lib.hid hjk
        clear hN hm hjk
        rcases key with ⟨hki, h1, h2⟩ | ⟨hmN, hex⟩
        · obtain ⟨g2, o2, rfl, -, ck⟩ := HK.out k hki
          have ck := NA.out.cell (HG.out.nw.cell (HN1.out.cell ck))
          have e : ks.getD k 0 = ks[k] := by simp [List.getD, hki]
          have E := Lib.hid e
          generalize ks[k] = kk at *
          have hks : (k : Int) < (ks.length : Int) := by omega
          have hk0 : (0 : Int) ≤ (k : Int) := by omega
          clear e
          go_wp2
          go_round
          case rel => exact ⟨m + 1, j + 1, by go_num, by go_num, by have := hmj.out; omega, by omega, by rw [E.out]; omega⟩
          case measure => simp [intOf]; omega
        · have HMN := Lib.hid hmN
          clear hmN
          have R9 := Lib.hid (HBX.out.take hml)
          have hsl : ∀ w, (Instr.slice 79 (.slice xa x2.length xc) none (some (.int .i64 m)) none).run Tryz.prog w = .ok (sliced xa 0 m xc 1) w := fun w => by
            have h1 : (m : Int) ≤ (xc : Int) := by omega
            have h2 : (0 : Int) ≤ (m : Int) := by omega
            go_simp
          generalize sliced xa 0 m xc 1 = s9 at R9 hsl
          obtain ⟨J, hJ⟩ : ∃ J, J = x2.take m := ⟨_, rfl⟩
          rw [← hJ] at R9
          have hJl : J.length = m := by rw [hJ, List.length_take]; omega
          have hJl2 : J.length ≤ 16777216 := by omega
          have HJ := Lib.hid hJ
          have HJL := Lib.hid hJl
          have N2 := Lib.hid ((HN1.out.trans HG.out.nw).trans NA.out)
          have JO := joined_ok (R9.out.nw N2.out) (.inl ⟨none, rfl, rfl⟩ : Bs W2 (.slice none 0 0) []) (by simp; omega)
          rw [List.append_nil] at JO
          have JO := Lib.hid JO
          have hN0 : (m : Int) < (x2.length : Int) ∨ True := .inr trivial
          have hpf2 : pf < W2.heap.size := lt_of_block F2.out
          clear hJ hJl hN0
          have hexs : (ks.length ≤ k) ∨ (k < ks.length ∧ ∃ kk : Int, ∃ g2 o2, ua = some ⟨g2, o2, none⟩ ∧ W2.cell? ⟨g2, o2 + k, none⟩ = some (.int .i64 kk) ∧ (kk ≤ (j : Int) ∨ ((j : Int) < kk ∧ x2.length ≤ m))) := by
            rcases hex with hex | ⟨hki, hex⟩
            · exact .inl hex
            · obtain ⟨g2, o2, e, -, ck⟩ := HK.out k hki
              exact .inr ⟨hki, ks[k], g2, o2, e, NA.out.cell (HG.out.nw.cell (HN1.out.cell ck)), hex⟩
          clear hex
          have hk0 : (0 : Int) ≤ (k : Int) := by omega
          rcases hexs with hex | ⟨hki, kk, g2, o2, rfl, ck, hex | ⟨hex, hex2⟩⟩
          all_goals
            go_upto_region 11 with fail
            go_wp2_with fail
            refine JO.out.mono ?_
            rintro e w6 ⟨v6, rfl, hv6, n6, hnew6⟩
            have V6 := Lib.hid hv6
            have NEW6 := Lib.hid hnew6
            have N6 := Lib.hid n6
            obtain ⟨a6, c6, rfl, -⟩ := hv6.len
            clear f0 f1 f2 ff0 ff1 ff2 hv6 n6 hnew6 hsl
            obtain ⟨f0, f1, f2, ff0, ff1, ff2⟩ := box_cells3 (N6.out.at_ F2.out)
            go_upto_region 13 with fail
            generalize hW7 : (w6.setCell ⟨pf, 1, none⟩ (.slice a6 J.length c6)).setCell ⟨pf, 2, none⟩ (.int .i64 m) = W7
            have HO7 : Hid (Only (fun k => k = pf) w6 W7) := Lib.hid (by
              rw [← hW7]
              refine Only.setCell (S := fun k => k = pf) (p := ⟨pf, 2, none⟩) ?_ (fun _ => rfl) _
              exact Only.setCell (S := fun k => k = pf) (p := ⟨pf, 1, none⟩) (Only.refl w6) (fun _ => rfl) _)
            have F7 : Hid (W7.heap[pf]? = some (.cells #[.string ⟨x1.toArray⟩, .slice a6 J.length c6, .int .i64 m] 104 (0, 0))) := Lib.hid (by
              rw [← hW7]
              have := heap_setCell_at (heap_setCell_at (N6.out.at_ F2.out) 1 (.slice a6 J.length c6)) 2 (.int .i64 m)
              simpa using this)
            have N7 : Hid (Nw wr W7) := Lib.hid ((NA.out.trans N6.out).trans' HO7.out (fun k hk e => by have := HPF.out; omega))
            have BB : Hid (BsX X W7 (.slice a6 J.length c6) J) := Lib.hid (by
              refine ⟨?_, fun _ g hg => HX.out g (by have := NEW6.out g hg; have := NA.out.size; have := HG.out.nw.size; have := HN1.out.size; omega)⟩
              have h1 := V6.out.keep HO7.out.size (fun g hg => HO7.out.block g (V6.out.lt g hg) (fun e => by have := NEW6.out g hg; omega))
              exact Vec.rd (f := Go.Proofs.YtkbenkldfehhlaaGreatDoor.u8) h1)
            clear hW7 f0 f1 f2 ff0 ff1 ff2
            obtain ⟨f0, f1, f2, ff0, ff1, ff2⟩ := box_cells3 F7.out
            have NL := Lib.hid (N7.out.trans ((Nw.refl W7).alloc (.cells #[.string ⟨x1.toArray⟩, .slice a6 J.length c6, .int .i64 m] 104)))
            have V2 := Lib.hid (HG.out.vec.nw NL.out)
            rw [HAL.out] at V2
            have S2 : Hid (SrcV 3 (W7.alloc (.cells #[.string ⟨x1.toArray⟩, .slice a6 J.length c6, .int .i64 m] 104)) (.slice (some ⟨W7.heap.size, 0, none⟩) 1 1) 1 [.string ⟨x1.toArray⟩, .slice a6 J.length c6, .int .i64 m]) := Lib.hid (src3 W7 x1 _ m _)
            have HONE : Hid (FCells X W7 [.string ⟨x1.toArray⟩, .slice a6 J.length c6, .int .i64 m] [(x1, ⟨J, m⟩)]) := Lib.hid (FCells.one (f := ⟨J, m⟩) BB.out)
            go_wp2_with (at_builtin; refine wpList_append_vec rfl _ _ 26 rfl 104 i0 (.agg #[.string ⟨#[]⟩, .slice none 0 0, .int .i64 0]) 3 48 Tryz.underlying26 HI.out HZ0.out HZ1.out HZ2.out rfl (by decide) rfl rfl V2.out S2.out HONE.out.one_cell ?_ ?_ ?_)
            · simp [maxLen]; omega
            · omega
            intro v' w' hv' ho hf
            have HP := Lib.hid (HG.out.push (b := .slice a6 J.length c6) (n := x1) (f := ⟨J, m⟩) NL.out (BB.out.nw ((Nw.refl W7).alloc _)) (fun g hg => by have := NEW6.out g hg; have := NA.out.size; omega) (by rw [HAL.out]; exact hv') ho (hf.imp id (fun h g hg => by have := h g hg; simpa using this)))
            clear hv' ho hf
            have e3 : (x1, leaves (⟨x2, x3⟩ : DFile) (ks.getD k 0)) = (x1, (⟨J, m⟩ : DFile)) := by
              rw [HJ.out, HMN.out, HNN.out]; rfl
            have E3 := Lib.hid e3
            clear e3
            go_wp2
            go_roundw
            case rel => exact ⟨k + 1, _, by omega, by go_num, by rw [HRT.out, E3.out]; exact HP.out⟩
            case measure => simp [intOf]; omega
    · have e : (rcrashF ks L).take k = rcrashF ks L := List.take_of_length_le (by rw [rcrash_len]; omega)
      rw [e] at HG
      obtain ⟨va, vc, hvv, -⟩ := HG.out.vec.len
      subst hvv
      obtain ⟨r0, r1, r2, r3, rf0, rf1, rf2, rf3⟩ := box_cells (HG.out.nw.at_ HB2.out)
      have hsz : w.heap.size + 1 < wr.heap.size := by have := HG.out.nw.size; have := HS1.out; omega
      clear e HAL
      generalize hM : rcrashF ks L = M at *
      have HM := Lib.hid hM
      clear hM
      have HFO : Hid (FL X wr (.slice va M.length vc) M) := Lib.hid ⟨cs, HG.out.vec.src, HG.out.cells, fun _ g hg => HX.out g (by have := HG.out.new g hg; have := HN1.out.size; omega)⟩
      have hO1 : Only (fun k => k = w.heap.size) wr (((wr.setCell ⟨w.heap.size, 1, none⟩ (.slice va M.length vc)).setCell ⟨w.heap.size, 3, none⟩ (.bool false)).setCell ⟨w.heap.size, 2, none⟩ (.int .i64 (-1))) := by
        refine Only.setCell (S := fun k => k = w.heap.size) (p := ⟨w.heap.size, 2, none⟩) ?_ (fun _ => rfl) _
        refine Only.setCell (S := fun k => k = w.heap.size) (p := ⟨w.heap.size, 3, none⟩) ?_ (fun _ => rfl) _
        exact Only.setCell (S := fun k => k = w.heap.size) (p := ⟨w.heap.size, 1, none⟩) (Only.refl wr) (fun _ => rfl) _
      have HO1 := Lib.hid hO1
      have HFP := Lib.hid (HFO.out.box (HG.out.nw.at_ HB1.out) hO1)
      have HQ1 := Lib.hid (hO1.at_ (HG.out.nw.at_ HB2.out) (by omega))
      have HFQ := Lib.hid (HFP.out.box HQ1.out (only_set4q _ (w.heap.size + 1) (.int .i64 most) (.slice va M.length vc) (.int .i64 (-1)) (.bool false)))
      clear hO1
      go_wp2
      refine bodyPost_ret (v := .agg #[.int .i64 most, .slice va M.length vc, .int .i64 (-1), .bool false]) (by simp [results, Tryz.results35, go_sem, r0, r1, r2, r3]) rfl ?_
      have hN := ((HN1.out.trans HG.out.nw).trans' HO1.out (fun k hk e => by omega)).trans' (only_set4q _ (w.heap.size + 1) (.int .i64 most) (.slice va M.length vc) (.int .i64 (-1)) (.bool false)) (fun k hk e => by omega)
      exact ⟨_, rfl, ⟨.slice va M.length vc, rfl, by show FL X _ _ (rcrashF ks L); rw [HM.out]; exact HFQ.out⟩, hN⟩
end
end Go.Proofs.YtkbenkldfehhlaaGreatDoor

namespace Go.Proofs.YtkbenkldfehhlaaGreatDoor
open Go Go.RowKit Go.Sort
set_option maxRecDepth 100000
set_option maxHeartbeats 1600000
theorem mem_getF : ∀ {L : List (Str × DFile)} {n : Str} {f : DFile}, getF L n = some f → (n, f) ∈ L
  | [], _, _, h => by simp [getF] at h
  | (k, g) :: L, n, f, h => by
    by_cases e : k = n
    · simp only [getF, if_pos e] at h
      obtain rfl := Option.some.inj h
      rw [e]; exact List.mem_cons_self
    · simp only [getF, if_neg e] at h
      exact List.mem_cons_of_mem _ (mem_getF h)
theorem RefOf.sy {d r : Dsk} (h : RefOf d r) (ok : d.Ok) : ∀ x ∈ r.files, x.2.synced ≤ x.2.bytes.length := by
  intro x hx
  obtain ⟨k, hk, rfl⟩ := List.getElem_of_mem hx
  have := getF_at (srt_nodup h.srt) k hk
  rw [h.get] at this
  exact ok.synced _ (mem_getF this)
def RD (X : Nat → Prop) (w : World) (v : Value) (d : Dsk) : Prop := d.Ok ∧ ∃ r, RefD X w v r ∧ RefOf d r
section
variable {X Y S : Nat → Prop} {w w' : World} {v : Value} {d d' : Dsk}
theorem RD.ok (h : RD X w v d) : d.Ok := h.1
theorem RD.nw (h : RD X w v d) (hw : Nw w w') : RD X w' v d := ⟨h.1, h.2.elim fun r hr => ⟨r, hr.1.nw hw, hr.2⟩⟩
theorem RD.mono (h : RD X w v d) (hy : ∀ k, X k → Y k) : RD Y w v d := ⟨h.1, h.2.elim fun r hr => ⟨r, hr.1.mono hy, hr.2⟩⟩
theorem RD.narrow (h : RD X w v d) : RD (fun k => X k ∧ k < w.heap.size) w v d := ⟨h.1, h.2.elim fun r hr => ⟨r, hr.1.narrow, hr.2⟩⟩
theorem RD.put (h : RD X w v d) (hw : Only S w w') (hs : ∀ k, X k → k < w.heap.size → ¬ S k) : RD X w' v d :=
  ⟨h.1, h.2.elim fun r hr => ⟨r, hr.1.kept ⟨hw.size, fun k hk hl => hw.block k hl (hs k hk hl)⟩, hr.2⟩⟩
theorem RD.in_ (h : RD X w v d) (hw : Nw w w') : RD (fun k => X k ∧ k < w.heap.size ∨ w'.heap.size ≤ k) w' v d := (h.narrow.nw hw).mono fun _ hk => .inl hk
theorem RD.parts (h : RD X w v d) : ∃ (m : Int) (a : Option Addr) (n c : Nat) (la : Int) (dn : Bool), v = .agg #[.int .i64 m, .slice a n c, .int .i64 la, .bool dn] := by
  obtain ⟨-, r, hr, -⟩ := h
  obtain ⟨a, c, rfl⟩ := hr.parts
  exact ⟨_, _, _, _, _, _, rfl⟩
def RDE (X : Nat → Prop) (w : World) (d' : Dsk) (x : Int) (e : Ending) (w' : World) : Prop :=
  ∃ (m : Int) (a : Option Addr) (n c : Nat) (la : Int) (dn : Bool), e = .returned (.tuple #[.agg #[.int .i64 m, .slice a n c, .int .i64 la, .bool dn], .int .i64 x]) ∧ RD X w' (.agg #[.int .i64 m, .slice a n c, .int .i64 la, .bool dn]) d' ∧ Nw w w'
theorem RDE.of {P : Program} {f : FuncId} {args : Array Value} {x : Int} {r' : Dsk} (ok : d'.Ok) (ho : RefOf d' r') (h : Calls P f args w fun e w' => ∃ v', e = .returned (.tuple #[v', .int .i64 x]) ∧ RefD X w' v' r' ∧ Nw w w') : Calls P f args w (RDE X w d' x) := by
  refine h.mono ?_
  rintro e w' ⟨v', rfl, h1, h2⟩
  obtain ⟨a, c, rfl⟩ := h1.parts
  exact ⟨_, _, _, _, _, _, rfl, ⟨ok, r', h1, ho⟩, h2⟩
theorem RD.append (h : RD X w v d) (hX : ∀ k, w.heap.size ≤ k → X k) {u : Value} {n : Str} {l : List UInt8} (hn : n.length ≤ 9223372036854775807) (hl : Bs w u l) (hll : l.length ≤ 16777216) {x : Int} (hr : d.append n l = (d', x)) :
    Calls Tryz.prog 39 #[v, .string ⟨n.toArray⟩, u] w (RDE X w d' x) := by
  obtain ⟨ok, r, h1, h2⟩ := h
  obtain ⟨r', hr', ho'⟩ := ref_append ok h2 hr
  have := rAppend_ok hX h1 (ROk.of ok h2) n hn l hl hll
  rw [hr'] at this
  exact RDE.of (ok_append ok hr) ho' this
theorem RD.sync (h : RD X w v d) (hX : ∀ k, w.heap.size ≤ k → X k) {n : Str} {x : Int} (hr : d.sync n = (d', x)) :
    Calls Tryz.prog 79 #[v, .string ⟨n.toArray⟩] w (RDE X w d' x) := by
  obtain ⟨ok, r, h1, h2⟩ := h
  obtain ⟨r', hr', ho'⟩ := ref_sync h2 hr
  have := rSync_ok hX h1 (ROk.of ok h2) n
  rw [hr'] at this
  exact RDE.of (ok_sync ok hr) ho' this
theorem RD.remove (h : RD X w v d) (hX : ∀ k, w.heap.size ≤ k → X k) {n : Str} {x : Int} (hr : d.remove n = (d', x)) :
    Calls Tryz.prog 60 #[v, .string ⟨n.toArray⟩] w (RDE X w d' x) := by
  obtain ⟨ok, r, h1, h2⟩ := h
  obtain ⟨r', hr', ho'⟩ := ref_remove ok h2 hr
  have := rRemove_ok hX h1 (ROk.of ok h2) n
  rw [hr'] at this
  exact RDE.of (ok_remove ok hr) ho' this
theorem RD.rename (h : RD X w v d) (hX : ∀ k, w.heap.size ≤ k → X k) {n m : Str} (hm : m.length ≤ 9223372036854775807) {x : Int} (hr : d.rename n m = (d', x)) :
    Calls Tryz.prog 125 #[v, .string ⟨n.toArray⟩, .string ⟨m.toArray⟩] w (RDE X w d' x) := by
  obtain ⟨ok, r, h1, h2⟩ := h
  obtain ⟨r', hr', ho'⟩ := ref_rename ok h2 hr
  have := rRename_ok hX h1 (ROk.of ok h2) n m hm
  rw [hr'] at this
  exact RDE.of (ok_rename ok hr) ho' this
theorem RD.cut (h : RD X w v d) (hX : ∀ k, w.heap.size ≤ k → X k) {n : Str} {k : Int} {x : Int} (hr : d.cut n k = (d', x)) :
    Calls Tryz.prog 59 #[v, .string ⟨n.toArray⟩, .int .i64 k] w (RDE X w d' x) := by
  obtain ⟨ok, r, h1, h2⟩ := h
  obtain ⟨r', hr', ho'⟩ := ref_cut h2 hr
  have := rCut_ok hX h1 (ROk.of ok h2) n k
  rw [hr'] at this
  exact RDE.of (ok_cut ok hr) ho' this
def RD1 (X : Nat → Prop) (w : World) (d' : Dsk) (e : Ending) (w' : World) : Prop :=
  ∃ (m : Int) (a : Option Addr) (n c : Nat) (la : Int) (dn : Bool), e = .returned (.agg #[.int .i64 m, .slice a n c, .int .i64 la, .bool dn]) ∧ RD X w' (.agg #[.int .i64 m, .slice a n c, .int .i64 la, .bool dn]) d' ∧ Nw w w'
theorem RD.arm (h : RD X w v d) {k : Int} (hk : k ≤ 9223372036854775807) : Calls Tryz.prog 14 #[v, .int .i64 k] w (RD1 X w (d.armed k)) := by
  obtain ⟨ok, r, h1, h2⟩ := h
  refine (rArm_ok h1 k).mono ?_
  rintro e w' ⟨v', rfl, g1, g2⟩
  obtain ⟨a, c, rfl⟩ := g1.parts
  exact ⟨_, _, _, _, _, _, rfl, ⟨ok.armed k hk, _, g1, ref_arm h2 k⟩, g2⟩
theorem RD.crash (h : RD X w v d) (hX : ∀ k, w.heap.size ≤ k → X k) {u : Value} {ks : List Int} (hks : Rd i64v w u ks) : Calls Tryz.prog 35 #[v, u] w (RD1 X w (d.crash ks)) := by
  obtain ⟨ok, r, h1, h2⟩ := h
  refine (rCrash_ok hX h1 (ROk.of ok h2) (h2.sy ok) ks hks).mono ?_
  rintro e w' ⟨v', rfl, g1, g2⟩
  obtain ⟨a, c, rfl⟩ := g1.parts
  exact ⟨_, _, _, _, _, _, rfl, ⟨ok_crash ok ks, _, g1, ref_crash ok h2 ks⟩, g2⟩
theorem RD.read (h : RD X w v d) {n : Str} {l : List UInt8} {x : Int} (hr : d.read n = (l, x)) :
    Calls Tryz.prog 45 #[v, .string ⟨n.toArray⟩] w fun e w' => ∃ a c, e = .returned (.tuple #[.slice a l.length c, .int .i64 x]) ∧ Bs w' (.slice a l.length c) l ∧ Nw w w' := by
  obtain ⟨ok, r, h1, h2⟩ := h
  have := rRead_ok h1 n
  rw [ref_read h2, hr] at this
  refine Calls.mono this ?_
  rintro e w' ⟨v', rfl, g1, g2⟩
  obtain ⟨a, c, rfl, -⟩ := Rd.len g1
  exact ⟨a, c, rfl, g1, g2⟩
end
end Go.Proofs.YtkbenkldfehhlaaGreatDoor
