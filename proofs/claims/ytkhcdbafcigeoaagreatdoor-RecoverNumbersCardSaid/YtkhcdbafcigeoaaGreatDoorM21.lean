/-
  Texts merged by a program of this claim's: Ref02D, Lies.
-/
import Derived.Test.YtkhcdbafcigeoaaGreatDoorM15
import Derived.Test.YtkhcdbafcigeoaaGreatDoorM9
namespace Go.Proofs.YtkhcdbafcigeoaaGreatDoor
open Go Go.RowKit Go.Sort
set_option maxRecDepth 100000
set_option maxHeartbeats 3200000
section
variable {X : Nat → Prop}

theorem rfind_mem {L : List (Str × DFile)} {n : Str} (h : n ∈ namesF L) : ∃ (k : Nat) (hk : k < L.length), rfindI L n = k ∧ L[k].1 = n ∧ fileOf L n = L[k].2 := by
  rcases split_name n L with hn | ⟨A, f, B, rfl, hA⟩
  · exact absurd h hn
  · refine ⟨A.length, by simp, ?_, by simp, by simp [fileOf, getF_hit hA]⟩
    refine rfind_at (by simp) (fun j hj hlt e => ?_) (by simp)
    rw [List.getElem_append_left hlt] at e
    exact hA (by rw [← e]; exact List.mem_map_of_mem (List.getElem_mem hlt))
theorem rfind_no {L : List (Str × DFile)} {n : Str} (h : n ∉ namesF L) : rfindI L n = -1 :=
  rfind_none fun j hj e => h (by rw [← e]; exact List.mem_map_of_mem (List.getElem_mem hj))
theorem rfile_le (L : List (Str × DFile)) (n : Str) : (fileOf L n).bytes.length ≤ usedF L := by
  by_cases h : n ∈ namesF L
  · obtain ⟨k, hk, -, -, e⟩ := rfind_mem h
    rw [e]
    have h1 := usedF_take L k hk
    have h2 := usedF_le L (k + 1)
    omega
  · have : getF L n = none := (getF_none _ _).2 h
    simp [fileOf, this]
theorem only_set4q (w1 : World) (q : Nat) (a b c d : Value) : Only (fun k => k = q) w1 ((((w1.setCell ⟨q, 0, none⟩ a).setCell ⟨q, 1, none⟩ b).setCell ⟨q, 2, none⟩ c).setCell ⟨q, 3, none⟩ d) := only_set4 w1 q a b c d
theorem Bs.box {w w' : World} {v : Value} {l : List UInt8} {q : Nat} {a b : Int} {x : Option Addr} {n c : Nat} {d : Bool} {t : TypeId} (h : Bs w v l) (hb : w.heap[q]? = some (.cells #[.int .i64 a, .slice x n c, .int .i64 b, .bool d] t (0, 0))) (hO : Only (fun k => k = q) w w') : Bs w' v l := by
  rcases h with h | ⟨g, o, cap, rfl, h1, h2, hg, h3⟩
  · exact .inl h
  · refine .inr ⟨g, o, cap, rfl, h1, h2, Nat.lt_of_lt_of_le hg hO.size, fun i hi => hO.cell (h3 i hi) (fun e => ?_)⟩
    have e' : g = q := e
    subst e'
    have h0 := h3 i hi
    simp only [World.cell?, hb] at h0
    generalize o + i = j at h0
    match j with
    | 0 | 1 | 2 | 3 => simp [u8] at h0
    | j + 4 => simp at h0
theorem FCells.box {w w' : World} {q : Nat} {a b : Int} {x : Option Addr} {n c : Nat} {d : Bool} {t : TypeId} (hb : w.heap[q]? = some (.cells #[.int .i64 a, .slice x n c, .int .i64 b, .bool d] t (0, 0))) (hO : Only (fun k => k = q) w w') :
    ∀ {L : List (Str × DFile)} {cs : List Value}, FCells X w cs L → FCells X w' cs L
  | [], _, h => h
  | _ :: _, _, ⟨b, cs', h1, h2, h3⟩ => ⟨b, cs', h1, ⟨h2.1.box hb hO, h2.2⟩, FCells.box hb hO h3⟩
theorem FL.box {w w' : World} {v : Value} {L : List (Str × DFile)} {q : Nat} {a b : Int} {x : Option Addr} {n c : Nat} {d : Bool} {t : TypeId} (h : FL X w v L) (hb : w.heap[q]? = some (.cells #[.int .i64 a, .slice x n c, .int .i64 b, .bool d] t (0, 0))) (hO : Only (fun k => k = q) w w') : FL X w' v L := by
  obtain ⟨cs, ⟨h0, hs⟩, hF, hG⟩ := h
  refine ⟨cs, ⟨h0, ?_⟩, hF.box hb hO, hG⟩
  rcases hs with hs | ⟨g, o, cap, rfl, h1, h2, hg, h3⟩
  · exact .inl hs
  · refine .inr ⟨g, o, cap, rfl, h1, h2, Nat.lt_of_lt_of_le hg hO.size, fun j hj => hO.cell (h3 j hj) (fun e => ?_)⟩
    have e' : g = q := e
    subst e'
    have hl : 0 < L.length := by omega
    obtain ⟨b', e0, -⟩ := hF.elem 0 hl
    have hlt : 0 < cs.length := by omega
    have e1 := h3 0 hlt
    have e2 : cs[0] = .string ⟨L[0].1.toArray⟩ := by
      have := List.getElem?_eq_getElem hlt
      rw [show 0 * 3 = 0 from rfl] at e0
      rw [e0] at this
      exact (Option.some.inj this).symm
    rw [e2] at e1
    simp only [World.cell?, hb] at e1
    match o with
    | 0 | 1 | 2 | 3 => simp at e1
    | o + 4 => simp at e1
abbrev DB (a b c d : Value) : Obj := .cells #[a, b, c, d] 43 (0, 0)

theorem rRead_ok {w : World} {v : Value} {r : Dsk} (h : RefD X w v r) (n : Str) : Calls Tryz.prog 90 #[v, .string ⟨n.toArray⟩] w fun e w' =>
    ∃ v', e = .returned (.tuple #[v', .int .i64 (r.read n).2]) ∧ Bs w' v' (r.read n).1 ∧ Nw w w' := by
  have HR := Lib.hid h
  obtain ⟨sv, rfl, hFL⟩ := h
  obtain ⟨a, cap, rfl, h1, h2, hel⟩ := hFL.elem
  obtain ⟨most, L, left, down⟩ := r
  simp only at h1 h2 hel HR
  have HE := Lib.hid hel
  clear hel hFL
  unfold maxLen at h2
  have HN : Hid (Nw w (w.alloc (.cells #[.int .i64 most, .slice a L.length cap, .int .i64 left, .bool down] 43))) := Lib.hid ((Nw.refl w).alloc _)
  cases down
  case true =>
    have r : Hid (Dsk.read ⟨most, L, left, true⟩ n = ([], 15)) := Lib.hid (by simp [Dsk.read])
    rw [r.out]
    go_enter Tryz.func90, Tryz.ntmps90
    go_wp2
    go_ret2
    exact ⟨.slice none 0 0, rfl, .inl ⟨_, rfl, rfl⟩, HN.out⟩
  case false =>
    by_cases hn : n ∈ namesF L
    · obtain ⟨k, hk, hfi, hkn, hfo⟩ := rfind_mem hn
      have r : Hid (Dsk.read ⟨most, L, left, false⟩ n = (L[k].2.bytes, 0)) := Lib.hid (by
        unfold Dsk.read
        cases hg : getF L n with
        | none => exact absurd hn ((getF_none _ _).1 hg)
        | some f => simp [fileOf, hg] at hfo; simp [hfo])
      rw [r.out]
      have HFI := Lib.hid hfi
      obtain ⟨g, o, b, rfl, e0, e1, e2, hb⟩ := HE.out k hk
      obtain ⟨xa, xc, rfl, -⟩ := hb.len
      have HBS := Lib.hid hb.1
      have E1 := Lib.hid e1
      generalize L[k].2.bytes = bb at *
      clear hfi hkn hfo hb e0 e1 e2 r
      go_enter Tryz.func90, Tryz.ntmps90
      go_wp2_with fail
      refine (rFind_ok (HR.out.nw HN.out) n).mono ?_
      rintro e w1 ⟨rfl, n1⟩
      have c1 := n1.cell (HN.out.cell E1.out)
      obtain ⟨b0, b1, b2, b3, -⟩ := box_cells (n1.at_ (heap_alloc_new w (DB (.int .i64 most) (.slice (some ⟨g, o, none⟩) L.length cap) (.int .i64 left) (.bool false))))
      have N1 := Lib.hid (HN.out.trans n1)
      have hfi := HFI.out
      simp only at hfi ⊢
      rw [hfi]
      clear hfi n1
      go_wp2
      go_ret2
      exact ⟨.slice xa bb.length xc, rfl, HBS.out.nw N1.out, N1.out⟩
    · have hfi := rfind_no hn
      have r : Hid (Dsk.read ⟨most, L, left, false⟩ n = ([], 13)) := Lib.hid (by
        unfold Dsk.read
        rw [show getF L n = none from (getF_none _ _).2 hn]
        rfl)
      rw [r.out]
      have HFI := Lib.hid hfi
      clear hfi hn
      go_enter Tryz.func90, Tryz.ntmps90
      go_wp2_with fail
      refine (rFind_ok (HR.out.nw HN.out) n).mono ?_
      rintro e w1 ⟨rfl, n1⟩
      have N1 := Lib.hid (HN.out.trans n1)
      have hfi := HFI.out
      simp only at hfi ⊢
      rw [hfi]
      clear hfi n1
      go_wp2
      go_ret2
      exact ⟨.slice none 0 0, rfl, .inl ⟨_, rfl, rfl⟩, N1.out⟩


theorem rRemove_ok {w : World} {v : Value} {r : Dsk} (hX : ∀ k, w.heap.size ≤ k → X k) (h : RefD X w v r) (hk : ROk r) (n : Str) : Calls Tryz.prog 100 #[v, .string ⟨n.toArray⟩] w fun e w' =>
    ∃ v', e = .returned (.tuple #[v', .int .i64 (r.rRemove n).2]) ∧ RefD X w' v' (r.rRemove n).1 ∧ Nw w w' := by
  have HX := Lib.hid hX
  clear hX
  have HR := Lib.hid h
  obtain ⟨sv, rfl, hFL⟩ := h
  obtain ⟨a, cap, rfl, h1, h2, hel⟩ := hFL.elem
  obtain ⟨most, L, left, down⟩ := r
  obtain ⟨few, used, most0, most1, arm0, arm1⟩ := hk
  simp only at h1 h2 HR few used most0 most1 arm0 arm1 hel
  have HFL := Lib.hid hFL
  have HE := Lib.hid hel
  simp only at HFL
  clear hFL hel
  unfold maxLen at h2
  cases down
  case true =>
    have r : Hid (Dsk.rRemove ⟨most, L, left, true⟩ n = (⟨most, L, left, true⟩, 15)) := Lib.hid (by simp [Dsk.rRemove, Dsk.op])
    rw [r.out]
    go_enter Tryz.func100, Tryz.ntmps100
    go_wp2
    refine bodyPost_ret (v := .tuple #[.agg #[.int .i64 most, .slice a L.length cap, .int .i64 left, .bool true], .int .i64 15]) (by simp [results, Tryz.results100, go_sem]) rfl ?_
    have hN := ((Nw.refl w).alloc (DB (.int .i64 most) (.slice a L.length cap) (.int .i64 left) (.bool true))).alloc (DB (.int .i64 most) (.slice a L.length cap) (.int .i64 left) (.bool true))
    exact ⟨_, rfl, ⟨_, rfl, HFL.out.nw hN⟩, hN⟩
  case false =>
    have TB := two_boxes w #[.int .i64 most, .slice a L.length cap, .int .i64 left, .bool false] #[.int .i64 0, .slice none 0 0, .int .i64 0, .bool false] 43 43
    go_enter Tryz.func100, Tryz.ntmps100
    go_wp2_with fail
    generalize (w.alloc (.cells #[.int .i64 most, .slice a L.length cap, .int .i64 left, .bool false] 43)).alloc (.cells #[.int .i64 0, .slice none 0 0, .int .i64 0, .bool false] 43) = W0 at TB ⊢
    obtain ⟨t1, t2, t3, t4⟩ := TB
    have T1 := Lib.hid t1
    have T2 := Lib.hid t2
    have T3 := Lib.hid t3
    have T4 := Lib.hid t4
    clear t1 t2 t3 t4
    refine (rFind_ok (HR.out.nw T1.out) n).mono ?_
    rintro e w1 ⟨rfl, n1⟩
    have N1 := Lib.hid (T1.out.trans n1)
    have B1 := Lib.hid (n1.at_ T2.out)
    have Q1 := Lib.hid (n1.at_ T3.out)
    have hs1 : w.heap.size + 1 < w1.heap.size := by have := n1.size; have := T4.out; omega
    obtain ⟨b0, b1, b2, b3, bf0, bf1, bf2, bf3⟩ := box_cells B1.out
    obtain ⟨r0, r1, r2, r3, rf0, rf1, rf2, rf3⟩ := box_cells Q1.out
    simp only
    clear n1
    by_cases hn : n ∈ namesF L
    case neg =>
      have r : Hid (Dsk.rRemove ⟨most, L, left, false⟩ n = (⟨most, L, left, false⟩, 13)) := Lib.hid (by simp [Dsk.rRemove, Dsk.op, Dsk.there, hn])
      rw [rfind_no hn]
      clear hn
      go_wp2
      refine bodyPost_ret (v := .tuple #[.agg #[.int .i64 most, .slice a L.length cap, .int .i64 left, .bool false], .int .i64 13]) (by simp [results, Tryz.results100, go_sem, r0, r1, r2, r3]) rfl ?_
      have hN := N1.out.trans' (only_set4q w1 (w.heap.size + 1) (.int .i64 most) (.slice a L.length cap) (.int .i64 left) (.bool false)) (fun k hk e => by omega)
      rw [r.out]
      exact ⟨_, rfl, ⟨_, rfl, HFL.out.nw hN⟩, hN⟩
    case pos =>
      obtain ⟨k, hk, hfi, -, -⟩ := rfind_mem hn
      have HN := Lib.hid hn
      rw [hfi]
      clear hfi hn
      go_wp2_with fail
      refine (opn_ok w1 most left a L.length cap false arm0 arm1).mono ?_
      rintro e w2 ⟨n2, he⟩
      have N2 := Lib.hid (N1.out.trans n2)
      have B2 := Lib.hid (n2.at_ B1.out)
      have Q2 := Lib.hid (n2.at_ Q1.out)
      have hs2 : w.heap.size + 1 < w2.heap.size := by have := n2.size; omega
      clear b0 b1 b2 b3 bf0 bf1 bf2 bf3 r0 r1 r2 r3 rf0 rf1 rf2 rf3 n2
      obtain ⟨b0, b1, b2, b3, bf0, bf1, bf2, bf3⟩ := box_cells B2.out
      obtain ⟨r0, r1, r2, r3, rf0, rf1, rf2, rf3⟩ := box_cells Q2.out
      by_cases hz : left = 0
      · have r : Hid (Dsk.rRemove ⟨most, L, left, false⟩ n = (⟨most, L, -1, true⟩, 15)) := Lib.hid (by simp [Dsk.rRemove, Dsk.op, Dsk.there, HN.out, hz])
        rw [if_pos hz] at he
        subst he
        clear hz
        go_wp2
        refine bodyPost_ret (v := .tuple #[.agg #[.int .i64 most, .slice a L.length cap, .int .i64 (-1), .bool true], .int .i64 15]) (by simp [results, Tryz.results100, go_sem, r0, r1, r2, r3]) rfl ?_
        have hN := (N2.out.trans' (only_set4 w2 w.heap.size (.int .i64 most) (.slice a L.length cap) (.int .i64 (-1)) (.bool true)) (fun k hk e => by omega)).trans' (only_set4q _ (w.heap.size + 1) (.int .i64 most) (.slice a L.length cap) (.int .i64 (-1)) (.bool true)) (fun k hk e => by omega)
        rw [r.out]
        exact ⟨_, rfl, ⟨_, rfl, HFL.out.nw hN⟩, hN⟩
      · rw [if_neg hz] at he
        subst he
        go_wp2_with fail
        generalize hW3 : (((w2.setCell ⟨w.heap.size, 0, none⟩ (.int .i64 most)).setCell ⟨w.heap.size, 1, none⟩ (.slice a L.length cap)).setCell ⟨w.heap.size, 2, none⟩ (.int .i64 (max (left - 1) (-1)))).setCell ⟨w.heap.size, 3, none⟩ (.bool false) = W3
        have HO3 : Hid (Only (fun k => k = w.heap.size) w2 W3) := Lib.hid (hW3 ▸ only_set4 w2 w.heap.size _ _ _ _)
        have B3 : Hid (W3.heap[w.heap.size]? = some (DB (.int .i64 most) (.slice a L.length cap) (.int .i64 (max (left - 1) (-1))) (.bool false))) := Lib.hid (hW3 ▸ heap_set4 B2.out _ _ _ _)
        have Q3 := Lib.hid (HO3.out.at_ Q2.out (by omega))
        have N3 := Lib.hid (N2.out.trans' HO3.out (fun k hk e => by omega))
        have hs3 : w.heap.size + 1 < W3.heap.size := by have := HO3.out.size; omega
        clear hW3 b0 b1 b2 b3 bf0 bf1 bf2 bf3 r0 r1 r2 r3 rf0 rf1 rf2 rf3
        have R3 : Hid (RefD X W3 (.agg #[.int .i64 most, .slice a L.length cap, .int .i64 (max (left - 1) (-1)), .bool false]) ⟨most, L, max (left - 1) (-1), false⟩) := Lib.hid ⟨_, rfl, HFL.out.nw N3.out⟩
        have r : Hid (Dsk.rRemove ⟨most, L, left, false⟩ n = (⟨most, rwithout L n, max (left - 1) (-1), false⟩, 0)) := Lib.hid (by simp [Dsk.rRemove, Dsk.op, Dsk.there, HN.out, hz])
        have HZ := Lib.hid hz
        clear hz
        refine (rwithout_ok R3.out.b (Nw.refl W3) n (by show L.length ≤ 100000; omega)).mono ?_
        rintro e w4 ⟨v4, rfl, hr4, n4⟩
        obtain ⟨sv4, cs4, rfl, hsv4, hfc4, hnw4⟩ := hr4
        obtain ⟨a4, c4, rfl, -⟩ := hsv4.len
        have RR : Hid (FL X w4 (.slice a4 (rwithout L n).length c4) (rwithout L n)) := Lib.hid ⟨cs4, hsv4, hfc4.nw n4, fun _ g hg => HX.out g (by have := hnw4 g hg; have := N3.out.size; omega)⟩
        have N4 := Lib.hid (N3.out.trans n4)
        have Q4 := n4.at_ Q3.out
        obtain ⟨r0, r1, r2, r3, rf0, rf1, rf2, rf3⟩ := box_cells Q4
        have hs4 : w.heap.size + 1 < w4.heap.size := by have := n4.size; (try simp at this); omega
        have QQ := Lib.hid Q4
        clear hsv4 hfc4 hnw4 n4 Q4
        simp only
        go_wp2
        refine bodyPost_ret (v := .tuple #[.agg #[.int .i64 most, .slice a4 (rwithout L n).length c4, .int .i64 (max (left - 1) (-1)), .bool false], .int .i64 0]) (by simp [results, Tryz.results100, go_sem, r0, r1, r2, r3]) rfl ?_
        have hN := N4.out.trans' (only_set4q w4 (w.heap.size + 1) (.int .i64 most) (.slice a4 (rwithout L n).length c4) (.int .i64 (max (left - 1) (-1))) (.bool false)) (fun k hk e => by omega)
        rw [r.out]
        exact ⟨_, rfl, ⟨_, rfl, RR.out.box QQ.out (only_set4q w4 (w.heap.size + 1) (.int .i64 most) (.slice a4 (rwithout L n).length c4) (.int .i64 (max (left - 1) (-1))) (.bool false))⟩, hN⟩


theorem rSync_ok {w : World} {v : Value} {r : Dsk} (hX : ∀ k, w.heap.size ≤ k → X k) (h : RefD X w v r) (hk : ROk r) (n : Str) : Calls Tryz.prog 114 #[v, .string ⟨n.toArray⟩] w fun e w' =>
    ∃ v', e = .returned (.tuple #[v', .int .i64 (r.rSync n).2]) ∧ RefD X w' v' (r.rSync n).1 ∧ Nw w w' := by
  have HX := Lib.hid hX
  clear hX
  have HR := Lib.hid h
  obtain ⟨sv, rfl, hFL⟩ := h
  obtain ⟨a, cap, rfl, h1, h2, hel⟩ := hFL.elem
  obtain ⟨most, L, left, down⟩ := r
  obtain ⟨few, used, most0, most1, arm0, arm1⟩ := hk
  simp only at h1 h2 HR few used most0 most1 arm0 arm1 hel
  have HFL := Lib.hid hFL
  have HE := Lib.hid hel
  simp only at HFL
  clear hFL hel
  unfold maxLen at h2
  cases down
  case true =>
    have r : Hid (Dsk.rSync ⟨most, L, left, true⟩ n = (⟨most, L, left, true⟩, 15)) := Lib.hid (by simp [Dsk.rSync, Dsk.op])
    rw [r.out]
    go_enter Tryz.func114, Tryz.ntmps114
    go_wp2
    refine bodyPost_ret (v := .tuple #[.agg #[.int .i64 most, .slice a L.length cap, .int .i64 left, .bool true], .int .i64 15]) (by simp [results, Tryz.results114, go_sem]) rfl ?_
    have hN := ((Nw.refl w).alloc (DB (.int .i64 most) (.slice a L.length cap) (.int .i64 left) (.bool true))).alloc (DB (.int .i64 most) (.slice a L.length cap) (.int .i64 left) (.bool true))
    exact ⟨_, rfl, ⟨_, rfl, HFL.out.nw hN⟩, hN⟩
  case false =>
    have TB := two_boxes w #[.int .i64 most, .slice a L.length cap, .int .i64 left, .bool false] #[.int .i64 0, .slice none 0 0, .int .i64 0, .bool false] 43 43
    go_enter Tryz.func114, Tryz.ntmps114
    go_wp2_with fail
    generalize (w.alloc (.cells #[.int .i64 most, .slice a L.length cap, .int .i64 left, .bool false] 43)).alloc (.cells #[.int .i64 0, .slice none 0 0, .int .i64 0, .bool false] 43) = W0 at TB ⊢
    obtain ⟨t1, t2, t3, t4⟩ := TB
    have T1 := Lib.hid t1
    have T2 := Lib.hid t2
    have T3 := Lib.hid t3
    have T4 := Lib.hid t4
    clear t1 t2 t3 t4
    refine (rFind_ok (HR.out.nw T1.out) n).mono ?_
    rintro e w1 ⟨rfl, n1⟩
    have N1 := Lib.hid (T1.out.trans n1)
    have B1 := Lib.hid (n1.at_ T2.out)
    have Q1 := Lib.hid (n1.at_ T3.out)
    have hs1 : w.heap.size + 1 < w1.heap.size := by have := n1.size; have := T4.out; omega
    obtain ⟨b0, b1, b2, b3, bf0, bf1, bf2, bf3⟩ := box_cells B1.out
    obtain ⟨r0, r1, r2, r3, rf0, rf1, rf2, rf3⟩ := box_cells Q1.out
    simp only
    clear n1
    by_cases hn : n ∈ namesF L
    case neg =>
      have r : Hid (Dsk.rSync ⟨most, L, left, false⟩ n = (⟨most, L, left, false⟩, 13)) := Lib.hid (by simp [Dsk.rSync, Dsk.op, Dsk.there, hn])
      rw [rfind_no hn]
      clear hn
      go_wp2
      refine bodyPost_ret (v := .tuple #[.agg #[.int .i64 most, .slice a L.length cap, .int .i64 left, .bool false], .int .i64 13]) (by simp [results, Tryz.results114, go_sem, r0, r1, r2, r3]) rfl ?_
      have hN := N1.out.trans' (only_set4q w1 (w.heap.size + 1) (.int .i64 most) (.slice a L.length cap) (.int .i64 left) (.bool false)) (fun k hk e => by omega)
      rw [r.out]
      exact ⟨_, rfl, ⟨_, rfl, HFL.out.nw hN⟩, hN⟩
    case pos =>
      obtain ⟨k, hk, hfi, hkn, hfo⟩ := rfind_mem hn
      have HKL := Lib.hid hk
      have HKN := Lib.hid hkn
      have HFO := Lib.hid hfo
      clear hkn hfo
      have HN := Lib.hid hn
      rw [hfi]
      clear hfi hn
      go_wp2_with fail
      refine (opn_ok w1 most left a L.length cap false arm0 arm1).mono ?_
      rintro e w2 ⟨n2, he⟩
      have N2 := Lib.hid (N1.out.trans n2)
      have B2 := Lib.hid (n2.at_ B1.out)
      have Q2 := Lib.hid (n2.at_ Q1.out)
      have hs2 : w.heap.size + 1 < w2.heap.size := by have := n2.size; omega
      clear b0 b1 b2 b3 bf0 bf1 bf2 bf3 r0 r1 r2 r3 rf0 rf1 rf2 rf3 n2
      obtain ⟨b0, b1, b2, b3, bf0, bf1, bf2, bf3⟩ := box_cells B2.out
      obtain ⟨r0, r1, r2, r3, rf0, rf1, rf2, rf3⟩ := box_cells Q2.out
      by_cases hz : left = 0
      · have r : Hid (Dsk.rSync ⟨most, L, left, false⟩ n = (⟨most, L, -1, true⟩, 15)) := Lib.hid (by simp [Dsk.rSync, Dsk.op, Dsk.there, HN.out, hz])
        rw [if_pos hz] at he
        subst he
        clear hz
        go_wp2
        refine bodyPost_ret (v := .tuple #[.agg #[.int .i64 most, .slice a L.length cap, .int .i64 (-1), .bool true], .int .i64 15]) (by simp [results, Tryz.results114, go_sem, r0, r1, r2, r3]) rfl ?_
        have hN := (N2.out.trans' (only_set4 w2 w.heap.size (.int .i64 most) (.slice a L.length cap) (.int .i64 (-1)) (.bool true)) (fun k hk e => by omega)).trans' (only_set4q _ (w.heap.size + 1) (.int .i64 most) (.slice a L.length cap) (.int .i64 (-1)) (.bool true)) (fun k hk e => by omega)
        rw [r.out]
        exact ⟨_, rfl, ⟨_, rfl, HFL.out.nw hN⟩, hN⟩
      · rw [if_neg hz] at he
        subst he
        go_wp2_with fail
        generalize hW3 : (((w2.setCell ⟨w.heap.size, 0, none⟩ (.int .i64 most)).setCell ⟨w.heap.size, 1, none⟩ (.slice a L.length cap)).setCell ⟨w.heap.size, 2, none⟩ (.int .i64 (max (left - 1) (-1)))).setCell ⟨w.heap.size, 3, none⟩ (.bool false) = W3
        have HO3 : Hid (Only (fun k => k = w.heap.size) w2 W3) := Lib.hid (hW3 ▸ only_set4 w2 w.heap.size _ _ _ _)
        have B3 : Hid (W3.heap[w.heap.size]? = some (DB (.int .i64 most) (.slice a L.length cap) (.int .i64 (max (left - 1) (-1))) (.bool false))) := Lib.hid (hW3 ▸ heap_set4 B2.out _ _ _ _)
        have Q3 := Lib.hid (HO3.out.at_ Q2.out (by omega))
        have N3 := Lib.hid (N2.out.trans' HO3.out (fun k hk e => by omega))
        have hs3 : w.heap.size + 1 < W3.heap.size := by have := HO3.out.size; omega
        clear hW3 b0 b1 b2 b3 bf0 bf1 bf2 bf3 r0 r1 r2 r3 rf0 rf1 rf2 rf3
        have R3 : Hid (RefD X W3 (.agg #[.int .i64 most, .slice a L.length cap, .int .i64 (max (left - 1) (-1)), .bool false]) ⟨most, L, max (left - 1) (-1), false⟩) := Lib.hid ⟨_, rfl, HFL.out.nw N3.out⟩
        have r : Hid (Dsk.rSync ⟨most, L, left, false⟩ n = (⟨most, rwith L (n, ⟨(fileOf L n).bytes, (fileOf L n).bytes.length⟩), max (left - 1) (-1), false⟩, 0)) := Lib.hid (by simp [Dsk.rSync, Dsk.op, Dsk.there, HN.out, hz])
        have HZ := Lib.hid hz
        clear hz
        obtain ⟨g, o, b, rfl, e0, e1, e2, hb⟩ := HE.out k HKL.out
        obtain ⟨xa, xc, rfl, -⟩ := hb.len
        have c0 := N3.out.cell e0
        have c1 := N3.out.cell e1
        have c2 := N3.out.cell e2
        have hb3 := Lib.hid (hb.nw N3.out)
        have hnm := HKN.out
        have hfo := HFO.out
        rw [hnm] at c0
        obtain ⟨b0, b1, b2, b3, -⟩ := box_cells B3.out
        have HACT : Hid (L[k].2 = fileOf L n) := Lib.hid hfo.symm
        generalize L[k] = x at *
        obtain ⟨x1, x2, x3⟩ := x
        simp only at c1 c2 hb3 hnm hfo HACT
        clear hb e0 e1 e2 hnm hfo
        have hne1 : ¬ w.heap.size = W3.heap.size := by omega
        have hne2 : ¬ W3.heap.size = w.heap.size := by omega
        have hlt3 : w.heap.size < W3.heap.size := by omega
        go_wp2_with fail
        have NA : Hid (Nw W3 (W3.alloc (.cells #[.string ⟨n.toArray⟩, .slice xa x2.length xc, .int .i64 x2.length] 143))) := Lib.hid ((Nw.refl W3).alloc _)
        have NB := Lib.hid (N3.out.trans NA.out)
        have QB := Lib.hid (NA.out.at_ Q3.out)
        refine (rwith_ok (R3.out.nw NA.out).b (Nw.refl _) n ⟨x2, x2.length⟩ xa xc (hb3.out.nw NA.out) (by show L.length ≤ 100000; omega)).mono ?_
        rintro e w4 ⟨v4, rfl, hr4, n4⟩
        have hx : (⟨x2, x2.length⟩ : DFile) = ⟨(fileOf L n).bytes, (fileOf L n).bytes.length⟩ := by rw [← HACT.out]
        rw [hx] at hr4
        clear hx
        obtain ⟨sv4, cs4, rfl, hsv4, hfc4, hnw4⟩ := hr4
        obtain ⟨a4, c4, rfl, -⟩ := hsv4.len
        have RR : Hid (FL X w4 (.slice a4 (rwith L (n, ⟨(fileOf L n).bytes, (fileOf L n).bytes.length⟩)).length c4) (rwith L (n, ⟨(fileOf L n).bytes, (fileOf L n).bytes.length⟩))) := Lib.hid ⟨cs4, hsv4, hfc4.nw n4, fun _ g hg => HX.out g (by have := hnw4 g hg; have := NB.out.size; omega)⟩
        have N4 := Lib.hid (NB.out.trans n4)
        have Q4 := n4.at_ QB.out
        obtain ⟨r0, r1, r2, r3, rf0, rf1, rf2, rf3⟩ := box_cells Q4
        have hs4 : w.heap.size + 1 < w4.heap.size := by have := n4.size; (try simp at this); omega
        have QQ := Lib.hid Q4
        clear hsv4 hfc4 hnw4 n4 Q4
        simp only
        go_wp2
        refine bodyPost_ret (v := .tuple #[.agg #[.int .i64 most, .slice a4 (rwith L (n, ⟨(fileOf L n).bytes, (fileOf L n).bytes.length⟩)).length c4, .int .i64 (max (left - 1) (-1)), .bool false], .int .i64 0]) (by simp [results, Tryz.results114, go_sem, r0, r1, r2, r3]) rfl ?_
        have hN := N4.out.trans' (only_set4q w4 (w.heap.size + 1) (.int .i64 most) (.slice a4 (rwith L (n, ⟨(fileOf L n).bytes, (fileOf L n).bytes.length⟩)).length c4) (.int .i64 (max (left - 1) (-1))) (.bool false)) (fun k hk e => by omega)
        rw [r.out]
        exact ⟨_, rfl, ⟨_, rfl, RR.out.box QQ.out (only_set4q w4 (w.heap.size + 1) (.int .i64 most) (.slice a4 (rwith L (n, ⟨(fileOf L n).bytes, (fileOf L n).bytes.length⟩)).length c4) (.int .i64 (max (left - 1) (-1))) (.bool false))⟩, hN⟩

end
end Go.Proofs.YtkhcdbafcigeoaaGreatDoor

namespace Go.Proofs.YtkhcdbafcigeoaaGreatDoor
open Go Go.RowKit Go.Sort
set_option maxRecDepth 100000
set_option maxHeartbeats 800000
section
variable {X Y : Nat → Prop} {w w' w0 : World}
theorem FCells.kept (hk : Kept X w w') : ∀ {L : List (Str × DFile)} {cs : List Value}, FCells X w cs L → FCells X w' cs L
  | [], _, h => h
  | _ :: _, _, ⟨b, cs', h1, h2, h3⟩ => ⟨b, cs', h1, ⟨h2.1.kept hk h2.2, h2.2⟩, FCells.kept hk h3⟩
theorem SrcV.kept {k : Nat} {v : Value} {n : Nat} {cs : List Value} (h : SrcV k w v n cs) (hk : Kept X w w') (hx : 0 < cs.length → ∀ g, v.ownBlock = some g → X g) : SrcV k w' v n cs := by
  obtain ⟨h0, hs | ⟨g, o, cap, rfl, h1, h2, hg, h3⟩⟩ := h
  · exact ⟨h0, .inl hs⟩
  · exact ⟨h0, .inr ⟨g, o, cap, rfl, h1, h2, Nat.lt_of_lt_of_le hg hk.1, fun j hj => hk.cell (h3 j hj) (hx (by omega) g rfl)⟩⟩
theorem RefD.kept {v : Value} {r : Dsk} (h : RefD X w v r) (hk : Kept X w w') : RefD X w' v r := by
  obtain ⟨sv, h1, cs, h2, h3, h4⟩ := h
  refine ⟨sv, h1, cs, h2.kept hk (fun hp => h4 (fun e => ?_)), h3.kept hk, h4⟩
  have := h3.len
  rw [e] at this
  simp at this
  rw [this] at hp
  simp at hp
theorem FCells.mono (hy : ∀ k, X k → Y k) : ∀ {L : List (Str × DFile)} {cs : List Value}, FCells X w cs L → FCells Y w cs L
  | [], _, h => h
  | _ :: _, _, ⟨b, cs', h1, h2, h3⟩ => ⟨b, cs', h1, ⟨h2.1, fun hne g hg => hy g (h2.2 hne g hg)⟩, FCells.mono hy h3⟩
theorem RefD.mono {v : Value} {r : Dsk} (h : RefD X w v r) (hy : ∀ k, X k → Y k) : RefD Y w v r := by
  obtain ⟨sv, h1, cs, h2, h3, h4⟩ := h
  exact ⟨sv, h1, cs, h2, h3.mono hy, fun hne g hg => hy g (h4 hne g hg)⟩
theorem FCells.narrow : ∀ {L : List (Str × DFile)} {cs : List Value}, FCells X w cs L → FCells (fun k => X k ∧ k < w.heap.size) w cs L
  | [], _, h => h
  | _ :: _, _, ⟨b, cs', h1, h2, h3⟩ => ⟨b, cs', h1, ⟨h2.1, fun hne g hg => ⟨h2.2 hne g hg, h2.1.lt hne g hg⟩⟩, FCells.narrow h3⟩
theorem RefD.narrow {v : Value} {r : Dsk} (h : RefD X w v r) : RefD (fun k => X k ∧ k < w.heap.size) w v r := by
  obtain ⟨sv, h1, cs, h2, h3, h4⟩ := h
  refine ⟨sv, h1, cs, h2, h3.narrow, fun hne g hg => ⟨h4 hne g hg, ?_⟩⟩
  have hl : r.files.length ≠ 0 := fun e => hne (List.eq_nil_of_length_eq_zero e)
  obtain ⟨h0, ⟨a, rfl, hn⟩ | ⟨g', o, cap, rfl, h1, h2, hg', h3⟩⟩ := h2
  · exact absurd hn hl
  · have e : g' = g := by simpa [Value.ownBlock] using hg
    omega
def Lies (Y : Nat → Prop) (w0 w : World) (b : Nat) (d r : Dsk) (v : Value) : Prop := ∃ X, HasX (fun k => X k ∨ Y k) w0 w b d ∧ RefD X w v r ∧ ∀ k, X k → ¬ Y k
variable {b : Nat} {d d' r r' : Dsk} {v : Value} {Z : Nat → Prop}
theorem Lies.has (h : Lies Y w0 w b d r v) : HasX Y w0 w b d := by
  obtain ⟨X, h1, -, -⟩ := h
  exact h1.weak fun k hk => .inr hk
theorem Lies.base (h : Lies Y w0 w b d r v) : Nw w0 w := h.has.base
theorem Lies.lt (h : Lies Y w0 w b d r v) : ∀ k, Y k → k < w.heap.size := h.has.lt
theorem Lies.ref (h : Lies Y w0 w b d r v) : ∃ X, RefD X w v r := by
  obtain ⟨X, -, h2, -⟩ := h
  exact ⟨X, h2⟩
theorem Lies.weak (h : Lies Y w0 w b d r v) (hy : ∀ k, Z k → Y k) : Lies Z w0 w b d r v := by
  obtain ⟨X, h1, h2, h3⟩ := h
  exact ⟨X, h1.weak fun k hk => hk.imp id (hy k), h2, fun k hk hz => h3 k hk (hy k hz)⟩
theorem Lies.nw (h : Lies Y w0 w b d r v) (hw : Nw w w') : Lies Y w0 w' b d r v := by
  obtain ⟨X, h1, h2, h3⟩ := h
  exact ⟨X, h1.nw hw, h2.nw hw, h3⟩
theorem Lies.put {T : Nat → Prop} (h : Lies Y w0 w b d r v) (hw : Only T w w') (ht : ∀ k, T k → k < w.heap.size → Y k ∧ w0.heap.size ≤ k) (hy : ∀ k, Z k → Y k ∨ w.heap.size ≤ k ∧ k < w'.heap.size) : Lies Z w0 w' b d r v := by
  obtain ⟨X, h1, h2, h3⟩ := h
  have hlt := h1.lt
  refine ⟨X, h1.put hw (fun k hk hl => ⟨.inr (ht k hk hl).1, (ht k hk hl).2⟩) (fun k hk => ?_), h2.kept ⟨hw.size, fun k hk hl => hw.block k hl (fun hT => h3 k hk (ht k hT hl).1)⟩, fun k hk hz => ?_⟩
  · rcases hk with hk | hk
    · exact .inl (.inl hk)
    · exact (hy k hk).imp .inr id
  · rcases hy k hz with h | h
    · exact h3 k hk h
    · have := hlt k (.inl hk); omega
theorem Lies.nwY (h : Lies Y w0 w b d r v) (hw : Nw w w') (hy : ∀ k, Z k → Y k ∨ w.heap.size ≤ k ∧ k < w'.heap.size) : Lies Z w0 w' b d r v := h.put hw (fun _ hf => hf.elim) hy
theorem Lies.new (h : HasX Y w0 w b d) (hr : RefD (fun k => w.heap.size ≤ k) w' v r) (hw : Nw w w') : Lies Y w0 w' b d r v := by
  refine ⟨fun k => w.heap.size ≤ k ∧ k < w'.heap.size, h.nwY hw (fun k hk => hk.symm), hr.narrow, fun k hk hy => ?_⟩
  have := h.lt k hy
  omega
theorem Lies.dsk {P : Program} {f : FuncId} {args : Array Value} {y : Value} (h : Lies Y w0 w b d r v)
    (hc : ∀ X : Nat → Prop, (∀ k, Y k → X k) → HasX X w0 w b d → Calls P f args w (DidX X w0 w b d' y)) :
    Calls P f args w fun e w' => e = .returned y ∧ Lies Y w0 w' b d' r v ∧ Kept Y w w' := by
  obtain ⟨X, h1, h2, h3⟩ := h
  refine (hc _ (fun k hk => .inr hk) h1).mono ?_
  rintro e w' ⟨he, hx, hk⟩
  exact ⟨he, ⟨X, hx, h2.kept (hk.weak fun k hk => .inl hk), h3⟩, hk.weak fun k hk => .inr hk⟩
theorem Lies.doc {P : Program} {f : FuncId} {args : Array Value} {E : Value → Value} (h : Lies Y w0 w b d r v)
    (hc : ∀ X : Nat → Prop, (∀ k, w.heap.size ≤ k → X k) → RefD X w v r → Calls P f args w fun e w' => ∃ v', e = .returned (E v') ∧ RefD X w' v' r' ∧ Nw w w') :
    Calls P f args w fun e w' => ∃ v', e = .returned (E v') ∧ Lies Y w0 w' b d r' v' ∧ Nw w w' := by
  obtain ⟨X, h1, h2, h3⟩ := h
  have hlt := h1.lt
  refine (hc (fun k => X k ∨ w.heap.size ≤ k) (fun k hk => .inr hk) (h2.mono fun k hk => .inl hk)).mono ?_
  rintro e w' ⟨v', he, hr, hn⟩
  refine ⟨v', he, ⟨fun k => X k ∨ (w.heap.size ≤ k ∧ k < w'.heap.size), h1.nwY hn (fun k hk => ?_), hr.narrow.mono (fun k hk => ?_), fun k hk hy => ?_⟩, hn⟩
  · rcases hk with (hk | hk) | hk
    · exact .inl (.inl hk)
    · exact .inr hk
    · exact .inl (.inr hk)
  · rcases hk with ⟨h | h, h'⟩
    · exact .inl h
    · exact .inr ⟨h, h'⟩
  · rcases hk with hk | hk
    · exact h3 k hk hy
    · have := hlt k (.inr hy); omega
theorem RefD.parts {v : Value} {r : Dsk} (h : RefD X w v r) : ∃ a c, v = .agg #[.int .i64 r.most, .slice a r.files.length c, .int .i64 r.arm, .bool r.down] := by
  obtain ⟨sv, rfl, hl⟩ := h
  obtain ⟨a, c, rfl, -⟩ := hl.elem
  exact ⟨a, c, rfl⟩
theorem Lies.parts (h : Lies Y w0 w b d r v) : ∃ a c, v = .agg #[.int .i64 r.most, .slice a r.files.length c, .int .i64 r.arm, .bool r.down] := by
  obtain ⟨X, h2⟩ := h.ref
  exact h2.parts
end
end Go.Proofs.YtkhcdbafcigeoaaGreatDoor
