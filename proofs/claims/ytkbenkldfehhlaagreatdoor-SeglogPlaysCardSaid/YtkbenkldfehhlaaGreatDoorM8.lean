/-
  Texts merged by a program of this claim's: Ref02D, Lies, BytesPlain, EventPlain, LogPlain, Calm.
-/
import Derived.Test.YtkbenkldfehhlaaGreatDoorM7
import Derived.Test.YtkbenkldfehhlaaGreatDoorM6
import Derived.Lib.ItoaNum
namespace Go.Proofs.YtkbenkldfehhlaaGreatDoor
open Go Go.RowKit Go.Sort
set_option maxRecDepth 100000
set_option maxHeartbeats 3200000
section
variable {X : Nat → Prop}

theorem rfind_mem {L : List (Str × DFile)} {n : Str} (h : n ∈ namesF L) : ∃ (k : Nat) (hk : k < L.length), rfindI L n = k ∧ L[k].1 = n ∧ fileOf L n = L[k].2 := by
  rcases split_name n L with hn | ⟨A, f, B, rfl, hA⟩
  · exact absurd h hn
  · refine ⟨A.length, by simp, ?_, by simp, by simp [fileOf, getF_hit hA]⟩
    refine rfind_at (by simp) (fun j hj hlt e => ?_) (by simp)
    rw [List.getElem_append_left hlt] at e
    exact hA (by rw [← e]; exact List.mem_map_of_mem (List.getElem_mem hlt))
theorem rfind_no {L : List (Str × DFile)} {n : Str} (h : n ∉ namesF L) : rfindI L n = -1 :=
  rfind_none fun j hj e => h (by rw [← e]; exact List.mem_map_of_mem (List.getElem_mem hj))
theorem rfile_le (L : List (Str × DFile)) (n : Str) : (fileOf L n).bytes.length ≤ usedF L := by
  by_cases h : n ∈ namesF L
  · obtain ⟨k, hk, -, -, e⟩ := rfind_mem h
    rw [e]
    have h1 := usedF_take L k hk
    have h2 := usedF_le L (k + 1)
    omega
  · have : getF L n = none := (getF_none _ _).2 h
    simp [fileOf, this]
theorem only_set4q (w1 : World) (q : Nat) (a b c d : Value) : Only (fun k => k = q) w1 ((((w1.setCell ⟨q, 0, none⟩ a).setCell ⟨q, 1, none⟩ b).setCell ⟨q, 2, none⟩ c).setCell ⟨q, 3, none⟩ d) := only_set4 w1 q a b c d
theorem Bs.box {w w' : World} {v : Value} {l : List UInt8} {q : Nat} {a b : Int} {x : Option Addr} {n c : Nat} {d : Bool} {t : TypeId} (h : Bs w v l) (hb : w.heap[q]? = some (.cells #[.int .i64 a, .slice x n c, .int .i64 b, .bool d] t (0, 0))) (hO : Only (fun k => k = q) w w') : Bs w' v l := by
  rcases h with h | ⟨g, o, cap, rfl, h1, h2, hg, h3⟩
  · exact .inl h
  · refine .inr ⟨g, o, cap, rfl, h1, h2, Nat.lt_of_lt_of_le hg hO.size, fun i hi => hO.cell (h3 i hi) (fun e => ?_)⟩
    have e' : g = q := e
    subst e'
    have h0 := h3 i hi
    simp only [World.cell?, hb] at h0
    generalize o + i = j at h0
    match j with
    | 0 | 1 | 2 | 3 => simp [u8] at h0
    | j + 4 => simp at h0
theorem FCells.box {w w' : World} {q : Nat} {a b : Int} {x : Option Addr} {n c : Nat} {d : Bool} {t : TypeId} (hb : w.heap[q]? = some (.cells #[.int .i64 a, .slice x n c, .int .i64 b, .bool d] t (0, 0))) (hO : Only (fun k => k = q) w w') :
    ∀ {L : List (Str × DFile)} {cs : List Value}, FCells X w cs L → FCells X w' cs L
  | [], _, h => h
  | _ :: _, _, ⟨b, cs', h1, h2, h3⟩ => ⟨b, cs', h1, ⟨h2.1.box hb hO, h2.2⟩, FCells.box hb hO h3⟩
theorem FL.box {w w' : World} {v : Value} {L : List (Str × DFile)} {q : Nat} {a b : Int} {x : Option Addr} {n c : Nat} {d : Bool} {t : TypeId} (h : FL X w v L) (hb : w.heap[q]? = some (.cells #[.int .i64 a, .slice x n c, .int .i64 b, .bool d] t (0, 0))) (hO : Only (fun k => k = q) w w') : FL X w' v L := by
  obtain ⟨cs, ⟨h0, hs⟩, hF, hG⟩ := h
  refine ⟨cs, ⟨h0, ?_⟩, hF.box hb hO, hG⟩
  rcases hs with hs | ⟨g, o, cap, rfl, h1, h2, hg, h3⟩
  · exact .inl hs
  · refine .inr ⟨g, o, cap, rfl, h1, h2, Nat.lt_of_lt_of_le hg hO.size, fun j hj => hO.cell (h3 j hj) (fun e => ?_)⟩
    have e' : g = q := e
    subst e'
    have hl : 0 < L.length := by omega
    obtain ⟨b', e0, -⟩ := hF.elem 0 hl
    have hlt : 0 < cs.length := by omega
    have e1 := h3 0 hlt
    have e2 : cs[0] = .string ⟨L[0].1.toArray⟩ := by
      have := List.getElem?_eq_getElem hlt
      rw [show 0 * 3 = 0 from rfl] at e0
      rw [e0] at this
      exact (Option.some.inj this).symm
    rw [e2] at e1
    simp only [World.cell?, hb] at e1
    match o with
    | 0 | 1 | 2 | 3 => simp at e1
    | o + 4 => simp at e1
abbrev DB (a b c d : Value) : Obj := .cells #[a, b, c, d] 28 (0, 0)

theorem rRead_ok {w : World} {v : Value} {r : Dsk} (h : RefD X w v r) (n : Str) : Calls Tryz.prog 45 #[v, .string ⟨n.toArray⟩] w fun e w' =>
    ∃ v', e = .returned (.tuple #[v', .int .i64 (r.read n).2]) ∧ Bs w' v' (r.read n).1 ∧ Nw w w' := by
  have HR := Lib.hid h
  obtain ⟨sv, rfl, hFL⟩ := h
  obtain ⟨a, cap, rfl, h1, h2, hel⟩ := hFL.elem
  obtain ⟨most, L, left, down⟩ := r
  simp only at h1 h2 hel HR
  have HE := Lib.hid hel
  clear hel hFL
  unfold maxLen at h2
  have HN : Hid (Nw w (w.alloc (.cells #[.int .i64 most, .slice a L.length cap, .int .i64 left, .bool down] 28))) := Lib.hid ((Nw.refl w).alloc _)
  cases down
  case true =>
    have r : Hid (Dsk.read ⟨most, L, left, true⟩ n = ([], 15)) := Lib.hid (by simp [Dsk.read])
    rw [r.out]
    go_enter Tryz.func45, Tryz.ntmps45
    go_wp2
    go_ret2
    exact ⟨.slice none 0 0, rfl, .inl ⟨_, rfl, rfl⟩, HN.out⟩
  case false =>
    by_cases hn : n ∈ namesF L
    · obtain ⟨k, hk, hfi, hkn, hfo⟩ := rfind_mem hn
      have r : Hid (Dsk.read ⟨most, L, left, false⟩ n = (L[k].2.bytes, 0)) := Lib.hid (by
        unfold Dsk.read
        cases hg : getF L n with
        | none => exact absurd hn ((getF_none _ _).1 hg)
        | some f => simp [fileOf, hg] at hfo; simp [hfo])
      rw [r.out]
      have HFI := Lib.hid hfi
      obtain ⟨g, o, b, rfl, e0, e1, e2, hb⟩ := HE.out k hk
      obtain ⟨xa, xc, rfl, -⟩ := hb.len
      have HBS := Lib.hid hb.1
      have E1 := Lib.hid e1
      generalize L[k].2.bytes = bb at *
      clear hfi hkn hfo hb e0 e1 e2 r
      go_enter Tryz.func45, Tryz.ntmps45
      go_wp2_with fail
      refine (rFind_ok (HR.out.nw HN.out) n).mono ?_
      rintro e w1 ⟨rfl, n1⟩
      have c1 := n1.cell (HN.out.cell E1.out)
      obtain ⟨b0, b1, b2, b3, -⟩ := box_cells (n1.at_ (heap_alloc_new w (DB (.int .i64 most) (.slice (some ⟨g, o, none⟩) L.length cap) (.int .i64 left) (.bool false))))
      have N1 := Lib.hid (HN.out.trans n1)
      have hfi := HFI.out
      simp only at hfi ⊢
      rw [hfi]
      clear hfi n1
      go_wp2
      go_ret2
      exact ⟨.slice xa bb.length xc, rfl, HBS.out.nw N1.out, N1.out⟩
    · have hfi := rfind_no hn
      have r : Hid (Dsk.read ⟨most, L, left, false⟩ n = ([], 13)) := Lib.hid (by
        unfold Dsk.read
        rw [show getF L n = none from (getF_none _ _).2 hn]
        rfl)
      rw [r.out]
      have HFI := Lib.hid hfi
      clear hfi hn
      go_enter Tryz.func45, Tryz.ntmps45
      go_wp2_with fail
      refine (rFind_ok (HR.out.nw HN.out) n).mono ?_
      rintro e w1 ⟨rfl, n1⟩
      have N1 := Lib.hid (HN.out.trans n1)
      have hfi := HFI.out
      simp only at hfi ⊢
      rw [hfi]
      clear hfi n1
      go_wp2
      go_ret2
      exact ⟨.slice none 0 0, rfl, .inl ⟨_, rfl, rfl⟩, N1.out⟩


theorem rRemove_ok {w : World} {v : Value} {r : Dsk} (hX : ∀ k, w.heap.size ≤ k → X k) (h : RefD X w v r) (hk : ROk r) (n : Str) : Calls Tryz.prog 60 #[v, .string ⟨n.toArray⟩] w fun e w' =>
    ∃ v', e = .returned (.tuple #[v', .int .i64 (r.rRemove n).2]) ∧ RefD X w' v' (r.rRemove n).1 ∧ Nw w w' := by
  have HX := Lib.hid hX
  clear hX
  have HR := Lib.hid h
  obtain ⟨sv, rfl, hFL⟩ := h
  obtain ⟨a, cap, rfl, h1, h2, hel⟩ := hFL.elem
  obtain ⟨most, L, left, down⟩ := r
  obtain ⟨few, used, most0, most1, arm0, arm1⟩ := hk
  simp only at h1 h2 HR few used most0 most1 arm0 arm1 hel
  have HFL := Lib.hid hFL
  have HE := Lib.hid hel
  simp only at HFL
  clear hFL hel
  unfold maxLen at h2
  cases down
  case true =>
    have r : Hid (Dsk.rRemove ⟨most, L, left, true⟩ n = (⟨most, L, left, true⟩, 15)) := Lib.hid (by simp [Dsk.rRemove, Dsk.op])
    rw [r.out]
    go_enter Tryz.func60, Tryz.ntmps60
    go_wp2
    refine bodyPost_ret (v := .tuple #[.agg #[.int .i64 most, .slice a L.length cap, .int .i64 left, .bool true], .int .i64 15]) (by simp [results, Tryz.results60, go_sem]) rfl ?_
    have hN := ((Nw.refl w).alloc (DB (.int .i64 most) (.slice a L.length cap) (.int .i64 left) (.bool true))).alloc (DB (.int .i64 most) (.slice a L.length cap) (.int .i64 left) (.bool true))
    exact ⟨_, rfl, ⟨_, rfl, HFL.out.nw hN⟩, hN⟩
  case false =>
    have TB := two_boxes w #[.int .i64 most, .slice a L.length cap, .int .i64 left, .bool false] #[.int .i64 0, .slice none 0 0, .int .i64 0, .bool false] 28 28
    go_enter Tryz.func60, Tryz.ntmps60
    go_wp2_with fail
    generalize (w.alloc (.cells #[.int .i64 most, .slice a L.length cap, .int .i64 left, .bool false] 28)).alloc (.cells #[.int .i64 0, .slice none 0 0, .int .i64 0, .bool false] 28) = W0 at TB ⊢
    obtain ⟨t1, t2, t3, t4⟩ := TB
    have T1 := Lib.hid t1
    have T2 := Lib.hid t2
    have T3 := Lib.hid t3
    have T4 := Lib.hid t4
    clear t1 t2 t3 t4
    refine (rFind_ok (HR.out.nw T1.out) n).mono ?_
    rintro e w1 ⟨rfl, n1⟩
    have N1 := Lib.hid (T1.out.trans n1)
    have B1 := Lib.hid (n1.at_ T2.out)
    have Q1 := Lib.hid (n1.at_ T3.out)
    have hs1 : w.heap.size + 1 < w1.heap.size := by have := n1.size; have := T4.out; omega
    obtain ⟨b0, b1, b2, b3, bf0, bf1, bf2, bf3⟩ := box_cells B1.out
    obtain ⟨r0, r1, r2, r3, rf0, rf1, rf2, rf3⟩ := box_cells Q1.out
    simp only
    clear n1
    by_cases hn : n ∈ namesF L
    case neg =>
      have r : Hid (Dsk.rRemove ⟨most, L, left, false⟩ n = (⟨most, L, left, false⟩, 13)) := Lib.hid (by simp [Dsk.rRemove, Dsk.op, Dsk.there, hn])
      rw [rfind_no hn]
      clear hn
      go_wp2
      refine bodyPost_ret (v := .tuple #[.agg #[.int .i64 most, .slice a L.length cap, .int .i64 left, .bool false], .int .i64 13]) (by simp [results, Tryz.results60, go_sem, r0, r1, r2, r3]) rfl ?_
      have hN := N1.out.trans' (only_set4q w1 (w.heap.size + 1) (.int .i64 most) (.slice a L.length cap) (.int .i64 left) (.bool false)) (fun k hk e => by omega)
      rw [r.out]
      exact ⟨_, rfl, ⟨_, rfl, HFL.out.nw hN⟩, hN⟩
    case pos =>
      obtain ⟨k, hk, hfi, -, -⟩ := rfind_mem hn
      have HN := Lib.hid hn
      rw [hfi]
      clear hfi hn
      go_wp2_with fail
      refine (opn_ok w1 most left a L.length cap false arm0 arm1).mono ?_
      rintro e w2 ⟨n2, he⟩
      have N2 := Lib.hid (N1.out.trans n2)
      have B2 := Lib.hid (n2.at_ B1.out)
      have Q2 := Lib.hid (n2.at_ Q1.out)
      have hs2 : w.heap.size + 1 < w2.heap.size := by have := n2.size; omega
      clear b0 b1 b2 b3 bf0 bf1 bf2 bf3 r0 r1 r2 r3 rf0 rf1 rf2 rf3 n2
      obtain ⟨b0, b1, b2, b3, bf0, bf1, bf2, bf3⟩ := box_cells B2.out
      obtain ⟨r0, r1, r2, r3, rf0, rf1, rf2, rf3⟩ := box_cells Q2.out
      by_cases hz : left = 0
      · have r : Hid (Dsk.rRemove ⟨most, L, left, false⟩ n = (⟨most, L, -1, true⟩, 15)) := Lib.hid (by simp [Dsk.rRemove, Dsk.op, Dsk.there, HN.out, hz])
        rw [if_pos hz] at he
        subst he
        clear hz
        go_wp2
        refine bodyPost_ret (v := .tuple #[.agg #[.int .i64 most, .slice a L.length cap, .int .i64 (-1), .bool true], .int .i64 15]) (by simp [results, Tryz.results60, go_sem, r0, r1, r2, r3]) rfl ?_
        have hN := (N2.out.trans' (only_set4 w2 w.heap.size (.int .i64 most) (.slice a L.length cap) (.int .i64 (-1)) (.bool true)) (fun k hk e => by omega)).trans' (only_set4q _ (w.heap.size + 1) (.int .i64 most) (.slice a L.length cap) (.int .i64 (-1)) (.bool true)) (fun k hk e => by omega)
        rw [r.out]
        exact ⟨_, rfl, ⟨_, rfl, HFL.out.nw hN⟩, hN⟩
      · rw [if_neg hz] at he
        subst he
        go_wp2_with fail
        generalize hW3 : (((w2.setCell ⟨w.heap.size, 0, none⟩ (.int .i64 most)).setCell ⟨w.heap.size, 1, none⟩ (.slice a L.length cap)).setCell ⟨w.heap.size, 2, none⟩ (.int .i64 (max (left - 1) (-1)))).setCell ⟨w.heap.size, 3, none⟩ (.bool false) = W3
        have HO3 : Hid (Only (fun k => k = w.heap.size) w2 W3) := Lib.hid (hW3 ▸ only_set4 w2 w.heap.size _ _ _ _)
        have B3 : Hid (W3.heap[w.heap.size]? = some (DB (.int .i64 most) (.slice a L.length cap) (.int .i64 (max (left - 1) (-1))) (.bool false))) := Lib.hid (hW3 ▸ heap_set4 B2.out _ _ _ _)
        have Q3 := Lib.hid (HO3.out.at_ Q2.out (by omega))
        have N3 := Lib.hid (N2.out.trans' HO3.out (fun k hk e => by omega))
        have hs3 : w.heap.size + 1 < W3.heap.size := by have := HO3.out.size; omega
        clear hW3 b0 b1 b2 b3 bf0 bf1 bf2 bf3 r0 r1 r2 r3 rf0 rf1 rf2 rf3
        have R3 : Hid (RefD X W3 (.agg #[.int .i64 most, .slice a L.length cap, .int .i64 (max (left - 1) (-1)), .bool false]) ⟨most, L, max (left - 1) (-1), false⟩) := Lib.hid ⟨_, rfl, HFL.out.nw N3.out⟩
        have r : Hid (Dsk.rRemove ⟨most, L, left, false⟩ n = (⟨most, rwithout L n, max (left - 1) (-1), false⟩, 0)) := Lib.hid (by simp [Dsk.rRemove, Dsk.op, Dsk.there, HN.out, hz])
        have HZ := Lib.hid hz
        clear hz
        refine (rwithout_ok R3.out.b (Nw.refl W3) n (by show L.length ≤ 100000; omega)).mono ?_
        rintro e w4 ⟨v4, rfl, hr4, n4⟩
        obtain ⟨sv4, cs4, rfl, hsv4, hfc4, hnw4⟩ := hr4
        obtain ⟨a4, c4, rfl, -⟩ := hsv4.len
        have RR : Hid (FL X w4 (.slice a4 (rwithout L n).length c4) (rwithout L n)) := Lib.hid ⟨cs4, hsv4, hfc4.nw n4, fun _ g hg => HX.out g (by have := hnw4 g hg; have := N3.out.size; omega)⟩
        have N4 := Lib.hid (N3.out.trans n4)
        have Q4 := n4.at_ Q3.out
        obtain ⟨r0, r1, r2, r3, rf0, rf1, rf2, rf3⟩ := box_cells Q4
        have hs4 : w.heap.size + 1 < w4.heap.size := by have := n4.size; (try simp at this); omega
        have QQ := Lib.hid Q4
        clear hsv4 hfc4 hnw4 n4 Q4
        simp only
        go_wp2
        refine bodyPost_ret (v := .tuple #[.agg #[.int .i64 most, .slice a4 (rwithout L n).length c4, .int .i64 (max (left - 1) (-1)), .bool false], .int .i64 0]) (by simp [results, Tryz.results60, go_sem, r0, r1, r2, r3]) rfl ?_
        have hN := N4.out.trans' (only_set4q w4 (w.heap.size + 1) (.int .i64 most) (.slice a4 (rwithout L n).length c4) (.int .i64 (max (left - 1) (-1))) (.bool false)) (fun k hk e => by omega)
        rw [r.out]
        exact ⟨_, rfl, ⟨_, rfl, RR.out.box QQ.out (only_set4q w4 (w.heap.size + 1) (.int .i64 most) (.slice a4 (rwithout L n).length c4) (.int .i64 (max (left - 1) (-1))) (.bool false))⟩, hN⟩


theorem rSync_ok {w : World} {v : Value} {r : Dsk} (hX : ∀ k, w.heap.size ≤ k → X k) (h : RefD X w v r) (hk : ROk r) (n : Str) : Calls Tryz.prog 79 #[v, .string ⟨n.toArray⟩] w fun e w' =>
    ∃ v', e = .returned (.tuple #[v', .int .i64 (r.rSync n).2]) ∧ RefD X w' v' (r.rSync n).1 ∧ Nw w w' := by
  have HX := Lib.hid hX
  clear hX
  have HR := Lib.hid h
  obtain ⟨sv, rfl, hFL⟩ := h
  obtain ⟨a, cap, rfl, h1, h2, hel⟩ := hFL.elem
  obtain ⟨most, L, left, down⟩ := r
  obtain ⟨few, used, most0, most1, arm0, arm1⟩ := hk
  simp only at h1 h2 HR few used most0 most1 arm0 arm1 hel
  have HFL := Lib.hid hFL
  have HE := Lib.hid hel
  simp only at HFL
  clear hFL hel
  unfold maxLen at h2
  cases down
  case true =>
    have r : Hid (Dsk.rSync ⟨most, L, left, true⟩ n = (⟨most, L, left, true⟩, 15)) := Lib.hid (by simp [Dsk.rSync, Dsk.op])
    rw [r.out]
    go_enter Tryz.func79, Tryz.ntmps79
    go_wp2
    refine bodyPost_ret (v := .tuple #[.agg #[.int .i64 most, .slice a L.length cap, .int .i64 left, .bool true], .int .i64 15]) (by simp [results, Tryz.results79, go_sem]) rfl ?_
    have hN := ((Nw.refl w).alloc (DB (.int .i64 most) (.slice a L.length cap) (.int .i64 left) (.bool true))).alloc (DB (.int .i64 most) (.slice a L.length cap) (.int .i64 left) (.bool true))
    exact ⟨_, rfl, ⟨_, rfl, HFL.out.nw hN⟩, hN⟩
  case false =>
    have TB := two_boxes w #[.int .i64 most, .slice a L.length cap, .int .i64 left, .bool false] #[.int .i64 0, .slice none 0 0, .int .i64 0, .bool false] 28 28
    go_enter Tryz.func79, Tryz.ntmps79
    go_wp2_with fail
    generalize (w.alloc (.cells #[.int .i64 most, .slice a L.length cap, .int .i64 left, .bool false] 28)).alloc (.cells #[.int .i64 0, .slice none 0 0, .int .i64 0, .bool false] 28) = W0 at TB ⊢
    obtain ⟨t1, t2, t3, t4⟩ := TB
    have T1 := Lib.hid t1
    have T2 := Lib.hid t2
    have T3 := Lib.hid t3
    have T4 := Lib.hid t4
    clear t1 t2 t3 t4
    refine (rFind_ok (HR.out.nw T1.out) n).mono ?_
    rintro e w1 ⟨rfl, n1⟩
    have N1 := Lib.hid (T1.out.trans n1)
    have B1 := Lib.hid (n1.at_ T2.out)
    have Q1 := Lib.hid (n1.at_ T3.out)
    have hs1 : w.heap.size + 1 < w1.heap.size := by have := n1.size; have := T4.out; omega
    obtain ⟨b0, b1, b2, b3, bf0, bf1, bf2, bf3⟩ := box_cells B1.out
    obtain ⟨r0, r1, r2, r3, rf0, rf1, rf2, rf3⟩ := box_cells Q1.out
    simp only
    clear n1
    by_cases hn : n ∈ namesF L
    case neg =>
      have r : Hid (Dsk.rSync ⟨most, L, left, false⟩ n = (⟨most, L, left, false⟩, 13)) := Lib.hid (by simp [Dsk.rSync, Dsk.op, Dsk.there, hn])
      rw [rfind_no hn]
      clear hn
      go_wp2
      refine bodyPost_ret (v := .tuple #[.agg #[.int .i64 most, .slice a L.length cap, .int .i64 left, .bool false], .int .i64 13]) (by simp [results, Tryz.results79, go_sem, r0, r1, r2, r3]) rfl ?_
      have hN := N1.out.trans' (only_set4q w1 (w.heap.size + 1) (.int .i64 most) (.slice a L.length cap) (.int .i64 left) (.bool false)) (fun k hk e => by omega)
      rw [r.out]
      exact ⟨_, rfl, ⟨_, rfl, HFL.out.nw hN⟩, hN⟩
    case pos =>
      obtain ⟨k, hk, hfi, hkn, hfo⟩ := rfind_mem hn
      have HKL := Lib.hid hk
      have HKN := Lib.hid hkn
      have HFO := Lib.hid hfo
      clear hkn hfo
      have HN := Lib.hid hn
      rw [hfi]
      clear hfi hn
      go_wp2_with fail
      refine (opn_ok w1 most left a L.length cap false arm0 arm1).mono ?_
      rintro e w2 ⟨n2, he⟩
      have N2 := Lib.hid (N1.out.trans n2)
      have B2 := Lib.hid (n2.at_ B1.out)
      have Q2 := Lib.hid (n2.at_ Q1.out)
      have hs2 : w.heap.size + 1 < w2.heap.size := by have := n2.size; omega
      clear b0 b1 b2 b3 bf0 bf1 bf2 bf3 r0 r1 r2 r3 rf0 rf1 rf2 rf3 n2
      obtain ⟨b0, b1, b2, b3, bf0, bf1, bf2, bf3⟩ := box_cells B2.out
      obtain ⟨r0, r1, r2, r3, rf0, rf1, rf2, rf3⟩ := box_cells Q2.out
      by_cases hz : left = 0
      · have r : Hid (Dsk.rSync ⟨most, L, left, false⟩ n = (⟨most, L, -1, true⟩, 15)) := Lib.hid (by simp [Dsk.rSync, Dsk.op, Dsk.there, HN.out, hz])
        rw [if_pos hz] at he
        subst he
        clear hz
        go_wp2
        refine bodyPost_ret (v := .tuple #[.agg #[.int .i64 most, .slice a L.length cap, .int .i64 (-1), .bool true], .int .i64 15]) (by simp [results, Tryz.results79, go_sem, r0, r1, r2, r3]) rfl ?_
        have hN := (N2.out.trans' (only_set4 w2 w.heap.size (.int .i64 most) (.slice a L.length cap) (.int .i64 (-1)) (.bool true)) (fun k hk e => by omega)).trans' (only_set4q _ (w.heap.size + 1) (.int .i64 most) (.slice a L.length cap) (.int .i64 (-1)) (.bool true)) (fun k hk e => by omega)
        rw [r.out]
        exact ⟨_, rfl, ⟨_, rfl, HFL.out.nw hN⟩, hN⟩
      · rw [if_neg hz] at he
        subst he
        go_wp2_with fail
        generalize hW3 : (((w2.setCell ⟨w.heap.size, 0, none⟩ (.int .i64 most)).setCell ⟨w.heap.size, 1, none⟩ (.slice a L.length cap)).setCell ⟨w.heap.size, 2, none⟩ (.int .i64 (max (left - 1) (-1)))).setCell ⟨w.heap.size, 3, none⟩ (.bool false) = W3
        have HO3 : Hid (Only (fun k => k = w.heap.size) w2 W3) := Lib.hid (hW3 ▸ only_set4 w2 w.heap.size _ _ _ _)
        have B3 : Hid (W3.heap[w.heap.size]? = some (DB (.int .i64 most) (.slice a L.length cap) (.int .i64 (max (left - 1) (-1))) (.bool false))) := Lib.hid (hW3 ▸ heap_set4 B2.out _ _ _ _)
        have Q3 := Lib.hid (HO3.out.at_ Q2.out (by omega))
        have N3 := Lib.hid (N2.out.trans' HO3.out (fun k hk e => by omega))
        have hs3 : w.heap.size + 1 < W3.heap.size := by have := HO3.out.size; omega
        clear hW3 b0 b1 b2 b3 bf0 bf1 bf2 bf3 r0 r1 r2 r3 rf0 rf1 rf2 rf3
        have R3 : Hid (RefD X W3 (.agg #[.int .i64 most, .slice a L.length cap, .int .i64 (max (left - 1) (-1)), .bool false]) ⟨most, L, max (left - 1) (-1), false⟩) := Lib.hid ⟨_, rfl, HFL.out.nw N3.out⟩
        have r : Hid (Dsk.rSync ⟨most, L, left, false⟩ n = (⟨most, rwith L (n, ⟨(fileOf L n).bytes, (fileOf L n).bytes.length⟩), max (left - 1) (-1), false⟩, 0)) := Lib.hid (by simp [Dsk.rSync, Dsk.op, Dsk.there, HN.out, hz])
        have HZ := Lib.hid hz
        clear hz
        obtain ⟨g, o, b, rfl, e0, e1, e2, hb⟩ := HE.out k HKL.out
        obtain ⟨xa, xc, rfl, -⟩ := hb.len
        have c0 := N3.out.cell e0
        have c1 := N3.out.cell e1
        have c2 := N3.out.cell e2
        have hb3 := Lib.hid (hb.nw N3.out)
        have hnm := HKN.out
        have hfo := HFO.out
        rw [hnm] at c0
        obtain ⟨b0, b1, b2, b3, -⟩ := box_cells B3.out
        have HACT : Hid (L[k].2 = fileOf L n) := Lib.hid hfo.symm
        generalize L[k] = x at *
        obtain ⟨x1, x2, x3⟩ := x
        simp only at c1 c2 hb3 hnm hfo HACT
        clear hb e0 e1 e2 hnm hfo
        have hne1 : ¬ w.heap.size = W3.heap.size := by omega
        have hne2 : ¬ W3.heap.size = w.heap.size := by omega
        have hlt3 : w.heap.size < W3.heap.size := by omega
        go_wp2_with fail
        have NA : Hid (Nw W3 (W3.alloc (.cells #[.string ⟨n.toArray⟩, .slice xa x2.length xc, .int .i64 x2.length] 104))) := Lib.hid ((Nw.refl W3).alloc _)
        have NB := Lib.hid (N3.out.trans NA.out)
        have QB := Lib.hid (NA.out.at_ Q3.out)
        refine (rwith_ok (R3.out.nw NA.out).b (Nw.refl _) n ⟨x2, x2.length⟩ xa xc (hb3.out.nw NA.out) (by show L.length ≤ 100000; omega)).mono ?_
        rintro e w4 ⟨v4, rfl, hr4, n4⟩
        have hx : (⟨x2, x2.length⟩ : DFile) = ⟨(fileOf L n).bytes, (fileOf L n).bytes.length⟩ := by rw [← HACT.out]
        rw [hx] at hr4
        clear hx
        obtain ⟨sv4, cs4, rfl, hsv4, hfc4, hnw4⟩ := hr4
        obtain ⟨a4, c4, rfl, -⟩ := hsv4.len
        have RR : Hid (FL X w4 (.slice a4 (rwith L (n, ⟨(fileOf L n).bytes, (fileOf L n).bytes.length⟩)).length c4) (rwith L (n, ⟨(fileOf L n).bytes, (fileOf L n).bytes.length⟩))) := Lib.hid ⟨cs4, hsv4, hfc4.nw n4, fun _ g hg => HX.out g (by have := hnw4 g hg; have := NB.out.size; omega)⟩
        have N4 := Lib.hid (NB.out.trans n4)
        have Q4 := n4.at_ QB.out
        obtain ⟨r0, r1, r2, r3, rf0, rf1, rf2, rf3⟩ := box_cells Q4
        have hs4 : w.heap.size + 1 < w4.heap.size := by have := n4.size; (try simp at this); omega
        have QQ := Lib.hid Q4
        clear hsv4 hfc4 hnw4 n4 Q4
        simp only
        go_wp2
        refine bodyPost_ret (v := .tuple #[.agg #[.int .i64 most, .slice a4 (rwith L (n, ⟨(fileOf L n).bytes, (fileOf L n).bytes.length⟩)).length c4, .int .i64 (max (left - 1) (-1)), .bool false], .int .i64 0]) (by simp [results, Tryz.results79, go_sem, r0, r1, r2, r3]) rfl ?_
        have hN := N4.out.trans' (only_set4q w4 (w.heap.size + 1) (.int .i64 most) (.slice a4 (rwith L (n, ⟨(fileOf L n).bytes, (fileOf L n).bytes.length⟩)).length c4) (.int .i64 (max (left - 1) (-1))) (.bool false)) (fun k hk e => by omega)
        rw [r.out]
        exact ⟨_, rfl, ⟨_, rfl, RR.out.box QQ.out (only_set4q w4 (w.heap.size + 1) (.int .i64 most) (.slice a4 (rwith L (n, ⟨(fileOf L n).bytes, (fileOf L n).bytes.length⟩)).length c4) (.int .i64 (max (left - 1) (-1))) (.bool false))⟩, hN⟩

end
end Go.Proofs.YtkbenkldfehhlaaGreatDoor

namespace Go.Proofs.YtkbenkldfehhlaaGreatDoor
open Go Go.RowKit Go.Sort
set_option maxRecDepth 100000
set_option maxHeartbeats 800000
section
variable {X Y : Nat → Prop} {w w' w0 : World}
theorem FCells.kept (hk : Kept X w w') : ∀ {L : List (Str × DFile)} {cs : List Value}, FCells X w cs L → FCells X w' cs L
  | [], _, h => h
  | _ :: _, _, ⟨b, cs', h1, h2, h3⟩ => ⟨b, cs', h1, ⟨h2.1.kept hk h2.2, h2.2⟩, FCells.kept hk h3⟩
theorem SrcV.kept {k : Nat} {v : Value} {n : Nat} {cs : List Value} (h : SrcV k w v n cs) (hk : Kept X w w') (hx : 0 < cs.length → ∀ g, v.ownBlock = some g → X g) : SrcV k w' v n cs := by
  obtain ⟨h0, hs | ⟨g, o, cap, rfl, h1, h2, hg, h3⟩⟩ := h
  · exact ⟨h0, .inl hs⟩
  · exact ⟨h0, .inr ⟨g, o, cap, rfl, h1, h2, Nat.lt_of_lt_of_le hg hk.1, fun j hj => hk.cell (h3 j hj) (hx (by omega) g rfl)⟩⟩
theorem RefD.kept {v : Value} {r : Dsk} (h : RefD X w v r) (hk : Kept X w w') : RefD X w' v r := by
  obtain ⟨sv, h1, cs, h2, h3, h4⟩ := h
  refine ⟨sv, h1, cs, h2.kept hk (fun hp => h4 (fun e => ?_)), h3.kept hk, h4⟩
  have := h3.len
  rw [e] at this
  simp at this
  rw [this] at hp
  simp at hp
theorem FCells.mono (hy : ∀ k, X k → Y k) : ∀ {L : List (Str × DFile)} {cs : List Value}, FCells X w cs L → FCells Y w cs L
  | [], _, h => h
  | _ :: _, _, ⟨b, cs', h1, h2, h3⟩ => ⟨b, cs', h1, ⟨h2.1, fun hne g hg => hy g (h2.2 hne g hg)⟩, FCells.mono hy h3⟩
theorem RefD.mono {v : Value} {r : Dsk} (h : RefD X w v r) (hy : ∀ k, X k → Y k) : RefD Y w v r := by
  obtain ⟨sv, h1, cs, h2, h3, h4⟩ := h
  exact ⟨sv, h1, cs, h2, h3.mono hy, fun hne g hg => hy g (h4 hne g hg)⟩
theorem FCells.narrow : ∀ {L : List (Str × DFile)} {cs : List Value}, FCells X w cs L → FCells (fun k => X k ∧ k < w.heap.size) w cs L
  | [], _, h => h
  | _ :: _, _, ⟨b, cs', h1, h2, h3⟩ => ⟨b, cs', h1, ⟨h2.1, fun hne g hg => ⟨h2.2 hne g hg, h2.1.lt hne g hg⟩⟩, FCells.narrow h3⟩
theorem RefD.narrow {v : Value} {r : Dsk} (h : RefD X w v r) : RefD (fun k => X k ∧ k < w.heap.size) w v r := by
  obtain ⟨sv, h1, cs, h2, h3, h4⟩ := h
  refine ⟨sv, h1, cs, h2, h3.narrow, fun hne g hg => ⟨h4 hne g hg, ?_⟩⟩
  have hl : r.files.length ≠ 0 := fun e => hne (List.eq_nil_of_length_eq_zero e)
  obtain ⟨h0, ⟨a, rfl, hn⟩ | ⟨g', o, cap, rfl, h1, h2, hg', h3⟩⟩ := h2
  · exact absurd hn hl
  · have e : g' = g := by simpa [Value.ownBlock] using hg
    omega
def Lies (Y : Nat → Prop) (w0 w : World) (b : Nat) (d r : Dsk) (v : Value) : Prop := ∃ X, HasX (fun k => X k ∨ Y k) w0 w b d ∧ RefD X w v r ∧ ∀ k, X k → ¬ Y k
variable {b : Nat} {d d' r r' : Dsk} {v : Value} {Z : Nat → Prop}
theorem Lies.has (h : Lies Y w0 w b d r v) : HasX Y w0 w b d := by
  obtain ⟨X, h1, -, -⟩ := h
  exact h1.weak fun k hk => .inr hk
theorem Lies.base (h : Lies Y w0 w b d r v) : Nw w0 w := h.has.base
theorem Lies.lt (h : Lies Y w0 w b d r v) : ∀ k, Y k → k < w.heap.size := h.has.lt
theorem Lies.ref (h : Lies Y w0 w b d r v) : ∃ X, RefD X w v r := by
  obtain ⟨X, -, h2, -⟩ := h
  exact ⟨X, h2⟩
theorem Lies.weak (h : Lies Y w0 w b d r v) (hy : ∀ k, Z k → Y k) : Lies Z w0 w b d r v := by
  obtain ⟨X, h1, h2, h3⟩ := h
  exact ⟨X, h1.weak fun k hk => hk.imp id (hy k), h2, fun k hk hz => h3 k hk (hy k hz)⟩
theorem Lies.nw (h : Lies Y w0 w b d r v) (hw : Nw w w') : Lies Y w0 w' b d r v := by
  obtain ⟨X, h1, h2, h3⟩ := h
  exact ⟨X, h1.nw hw, h2.nw hw, h3⟩
theorem Lies.put {T : Nat → Prop} (h : Lies Y w0 w b d r v) (hw : Only T w w') (ht : ∀ k, T k → k < w.heap.size → Y k ∧ w0.heap.size ≤ k) (hy : ∀ k, Z k → Y k ∨ w.heap.size ≤ k ∧ k < w'.heap.size) : Lies Z w0 w' b d r v := by
  obtain ⟨X, h1, h2, h3⟩ := h
  have hlt := h1.lt
  refine ⟨X, h1.put hw (fun k hk hl => ⟨.inr (ht k hk hl).1, (ht k hk hl).2⟩) (fun k hk => ?_), h2.kept ⟨hw.size, fun k hk hl => hw.block k hl (fun hT => h3 k hk (ht k hT hl).1)⟩, fun k hk hz => ?_⟩
  · rcases hk with hk | hk
    · exact .inl (.inl hk)
    · exact (hy k hk).imp .inr id
  · rcases hy k hz with h | h
    · exact h3 k hk h
    · have := hlt k (.inl hk); omega
theorem Lies.nwY (h : Lies Y w0 w b d r v) (hw : Nw w w') (hy : ∀ k, Z k → Y k ∨ w.heap.size ≤ k ∧ k < w'.heap.size) : Lies Z w0 w' b d r v := h.put hw (fun _ hf => hf.elim) hy
theorem Lies.new (h : HasX Y w0 w b d) (hr : RefD (fun k => w.heap.size ≤ k) w' v r) (hw : Nw w w') : Lies Y w0 w' b d r v := by
  refine ⟨fun k => w.heap.size ≤ k ∧ k < w'.heap.size, h.nwY hw (fun k hk => hk.symm), hr.narrow, fun k hk hy => ?_⟩
  have := h.lt k hy
  omega
theorem Lies.doc {P : Program} {f : FuncId} {args : Array Value} {E : Value → Value} (h : Lies Y w0 w b d r v)
    (hc : ∀ X : Nat → Prop, (∀ k, w.heap.size ≤ k → X k) → RefD X w v r → Calls P f args w fun e w' => ∃ v', e = .returned (E v') ∧ RefD X w' v' r' ∧ Nw w w') :
    Calls P f args w fun e w' => ∃ v', e = .returned (E v') ∧ Lies Y w0 w' b d r' v' ∧ Nw w w' := by
  obtain ⟨X, h1, h2, h3⟩ := h
  have hlt := h1.lt
  refine (hc (fun k => X k ∨ w.heap.size ≤ k) (fun k hk => .inr hk) (h2.mono fun k hk => .inl hk)).mono ?_
  rintro e w' ⟨v', he, hr, hn⟩
  refine ⟨v', he, ⟨fun k => X k ∨ (w.heap.size ≤ k ∧ k < w'.heap.size), h1.nwY hn (fun k hk => ?_), hr.narrow.mono (fun k hk => ?_), fun k hk hy => ?_⟩, hn⟩
  · rcases hk with (hk | hk) | hk
    · exact .inl (.inl hk)
    · exact .inr hk
    · exact .inl (.inr hk)
  · rcases hk with ⟨h | h, h'⟩
    · exact .inl h
    · exact .inr ⟨h, h'⟩
  · rcases hk with hk | hk
    · exact h3 k hk hy
    · have := hlt k (.inr hy); omega
theorem RefD.parts {v : Value} {r : Dsk} (h : RefD X w v r) : ∃ a c, v = .agg #[.int .i64 r.most, .slice a r.files.length c, .int .i64 r.arm, .bool r.down] := by
  obtain ⟨sv, rfl, hl⟩ := h
  obtain ⟨a, c, rfl, -⟩ := hl.elem
  exact ⟨a, c, rfl⟩
theorem Lies.parts (h : Lies Y w0 w b d r v) : ∃ a c, v = .agg #[.int .i64 r.most, .slice a r.files.length c, .int .i64 r.arm, .bool r.down] := by
  obtain ⟨X, h2⟩ := h.ref
  exact h2.parts
end
end Go.Proofs.YtkbenkldfehhlaaGreatDoor

namespace Go.Proofs.YtkbenkldfehhlaaGreatDoor
def uintB (n : Nat) : List UInt8 := if h : n < 128 then [UInt8.ofNat n] else UInt8.ofNat (n % 128 + 128) :: uintB (n / 128)
termination_by n
decreasing_by omega
theorem uintB_small {n : Nat} (h : n < 128) : uintB n = [UInt8.ofNat n] := by rw [uintB, dif_pos h]
theorem uintB_big {n : Nat} (h : ¬ n < 128) : uintB n = UInt8.ofNat (n % 128 + 128) :: uintB (n / 128) := by rw [uintB, dif_neg h]
theorem uintB_len (m : Nat) : ∀ k, 0 < k → m < 128 ^ k → (uintB m).length ≤ k := by
  induction m using Nat.strongRecOn with
  | ind m ih =>
    intro k hk hm
    by_cases hs : m < 128
    · rw [uintB_small hs]; exact hk
    · rw [uintB_big hs]
      cases k with
      | zero => omega
      | succ k =>
        have hk0 : 0 < k := by
          cases k with
          | zero => simp at hm; omega
          | succ k => omega
        have := ih (m / 128) (by omega) k hk0 (by rw [Nat.pow_succ] at hm; omega)
        simpa using this
theorem uintB_pos (m : Nat) : 0 < (uintB m).length := by
  by_cases hs : m < 128
  · rw [uintB_small hs]; simp
  · rw [uintB_big hs]; simp
def zig (n : Int) : Nat := if 0 ≤ n then (2 * n).toNat else (-2 * n - 1).toNat
theorem zig_lt {n : Int} (h0 : -9223372036854775808 ≤ n) (h1 : n ≤ 9223372036854775807) : zig n < 2 ^ 64 := by
  unfold zig
  split <;> omega
end Go.Proofs.YtkbenkldfehhlaaGreatDoor

namespace Go.Proofs.YtkbenkldfehhlaaGreatDoor

structure Ev where
  thread : Int
  op : UInt8
  obj : Int
  a : Int
  b : Int
def Ev.zero : Ev := ⟨0, 0, 0, 0, 0⟩
def in64 (n : Int) : Prop := -9223372036854775808 ≤ n ∧ n ≤ 9223372036854775807
structure Ev.Ok (e : Ev) : Prop where
  thread : in64 e.thread
  obj : in64 e.obj
  a : in64 e.a
  b : in64 e.b
def w64 (n : Int) : Int := (n + 9223372036854775808) % 18446744073709551616 - 9223372036854775808
theorem w64_in (n : Int) : in64 (w64 n) := by unfold w64 in64; omega
def intB (n : Int) : List UInt8 := uintB (zig n)
def putE (h e : Ev) : List UInt8 := e.op :: (intB (w64 (e.thread - h.thread)) ++ intB (w64 (e.obj - h.obj)) ++ intB (w64 (e.a - h.a)) ++ intB (w64 (e.b - h.b)))
def putL : Ev → List Ev → List UInt8
  | _, [] => []
  | h, e :: l => putE h e ++ putL e l
def lastE (h : Ev) (l : List Ev) : Ev := l.getLastD h
theorem putL_snoc : ∀ (l : List Ev) (h e : Ev), putL h (l ++ [e]) = putL h l ++ putE (lastE h l) e
  | [], h, e => by simp [putL, lastE]
  | x :: l, h, e => by
    simp only [List.cons_append, putL, putL_snoc l x e, List.append_assoc]
    congr 2
    unfold lastE
    cases l <;> simp [List.getLast?_cons]
def bodyB (l : List Ev) : List UInt8 := uintB l.length ++ putL Ev.zero l
section
variable (sum : List UInt8 → List UInt8)
def sealB (b : List UInt8) : List UInt8 := b ++ sum b
def frameB (l : List Ev) : List UInt8 := uintB (bodyB l).length ++ sealB sum (bodyB l)
end
theorem intB_len {n : Int} (h : in64 n) : (intB n).length ≤ 10 := uintB_len _ 10 (by omega) (Nat.lt_trans (zig_lt h.1 h.2) (by decide))
theorem putE_len (h e : Ev) : (putE h e).length ≤ 41 := by
  have h1 := intB_len (w64_in (e.thread - h.thread))
  have h2 := intB_len (w64_in (e.obj - h.obj))
  have h3 := intB_len (w64_in (e.a - h.a))
  have h4 := intB_len (w64_in (e.b - h.b))
  simp only [putE, List.length_cons, List.length_append]
  omega
theorem putL_len : ∀ (l : List Ev) (h : Ev), (putL h l).length ≤ 41 * l.length
  | [], _ => by simp [putL]
  | e :: l, h => by
    have h1 := putE_len h e
    have h2 := putL_len l e
    simp only [putL, List.length_append, List.length_cons]
    omega
theorem bodyB_len (l : List Ev) (h : l.length ≤ 4096) : (bodyB l).length ≤ 41 * l.length + 2 := by
  have h1 := putL_len l Ev.zero
  have h2 := uintB_len l.length 2 (by omega) (by omega)
  simp only [bodyB, List.length_append]
  omega
theorem frameB_len {sum : List UInt8 → List UInt8} (hs : ∀ b, (sum b).length = 4) (l : List Ev) (h : l.length ≤ 4096) : (frameB sum l).length ≤ 41 * l.length + 9 := by
  have h1 := bodyB_len l h
  have h2 := uintB_len (bodyB l).length 3 (by omega) (by omega)
  simp only [frameB, sealB, List.length_append, hs]
  omega
end Go.Proofs.YtkbenkldfehhlaaGreatDoor

namespace Go.Proofs.YtkbenkldfehhlaaGreatDoor
open Go
def bitStep (k r out : Nat) : Nat := if r / 2 ^ k % 2 = 1 then out ^^^ (3988292384 / 2 ^ (3 - k)) else out
def halfN (r : Nat) : Nat := bitStep 3 r (bitStep 2 r (bitStep 1 r (bitStep 0 r (r / 16))))
def crcGo (r : Nat) (l : List UInt8) : Nat := l.foldl (fun r c => halfN (halfN (r ^^^ c.toNat))) r
def crcN (l : List UInt8) : Nat := 4294967295 - crcGo 4294967295 l
def sumB (l : List UInt8) : List UInt8 := [UInt8.ofNat (crcN l / 16777216), UInt8.ofNat (crcN l / 65536), UInt8.ofNat (crcN l / 256), UInt8.ofNat (crcN l)]
theorem sumB_len (l : List UInt8) : (sumB l).length = 4 := rfl
theorem bitStep_lt {k r out : Nat} (h : out < 4294967296) : bitStep k r out < 4294967296 := by
  unfold bitStep
  split
  · refine Nat.xor_lt_two_pow (n := 32) h (Nat.lt_of_le_of_lt (Nat.div_le_self _ _) (by decide))
  · exact h
theorem halfN_lt {r : Nat} (h : r < 4294967296) : halfN r < 4294967296 := by
  unfold halfN
  exact bitStep_lt (bitStep_lt (bitStep_lt (bitStep_lt (by omega))))
theorem crcGo_lt : ∀ (l : List UInt8) (r : Nat), r < 4294967296 → crcGo r l < 4294967296
  | [], _, h => h
  | c :: l, r, h => crcGo_lt l _ (halfN_lt (halfN_lt (Nat.xor_lt_two_pow (n := 32) h (Nat.lt_trans c.toNat_lt (by decide)))))
theorem crcN_lt (l : List UInt8) : crcN l < 4294967296 := by unfold crcN; omega
structure Pc where
  name : Str
  first : Int
  count : Int
  dense : Bool
deriving DecidableEq
def Pc.zero : Pc := ⟨[], 0, 0, false⟩
def manifestS : Str := [109, 97, 110, 105, 102, 101, 115, 116]
def nextS : Str := [109, 97, 110, 105, 102, 101, 115, 116, 46, 110, 101, 119]
def okPiece (s : Str) : Bool := okName s && decide (s ≠ manifestS) && decide (s ≠ nextS)
def rightFrom : List Str → Int → List Pc → Bool
  | _, _, [] => true
  | seen, first, p :: l => okPiece p.name && !decide (p.name ∈ seen) && decide (p.first = first) && (if l = [] then decide (p.count = 0) && !p.dense else decide (1 ≤ p.count) && decide (p.count ≤ 1099511627776)) && rightFrom (p.name :: seen) (first + p.count) l
def rightL (l : List Pc) : Bool := decide (1 ≤ l.length) && decide (l.length ≤ 100) && rightFrom [] 0 l
def blobB (b : List UInt8) : List UInt8 := uintB b.length ++ b
def pieceB (p : Pc) : List UInt8 := blobB p.name ++ uintB p.first.toNat ++ uintB p.count.toNat ++ [if p.dense then 1 else 0]
def manifestIn (l : List Pc) : List UInt8 := [65, 77, 77, 49] ++ uintB l.length ++ l.flatMap pieceB
def manifestB (l : List Pc) : List UInt8 := sealB sumB (manifestIn l)
def headB (n : Nat) : List UInt8 := sealB sumB ([65, 77, 83, 49] ++ uintB n)
abbrev frmB (l : List Ev) : List UInt8 := frameB sumB l
def segName (n : Nat) : Str := 115 :: Lib.decDigits n
def andThen (r : Dsk × Int) (f : Dsk → Dsk × Int) : Dsk × Int := if r.2 = 0 then f r.1 else r
def Dsk.gone (d : Dsk) (n : Str) : Dsk × Int := ((d.remove n).1, if (d.remove n).2 = 13 then 0 else (d.remove n).2)
def Dsk.fresh (d : Dsk) (n : Str) (b : List UInt8) : Dsk × Int := andThen (andThen (d.gone n) (·.append n b)) (·.sync n)
def Dsk.install (d : Dsk) (l : List Pc) : Dsk × Int := if rightL l then andThen (d.fresh nextS (manifestB l)) (·.rename nextS manifestS) else (d, 14)
def Dsk.begun (d : Dsk) (n : Nat) : Dsk × Int := d.fresh (segName n) (headB n)
structure Lg where
  size : Int
  l : List Pc
  n : Nat
  acked : Nat
  bytes : Nat
  over : Bool
def lastP (l : List Pc) : Pc := l.getLastD Pc.zero
structure LgR where
  d : Dsk
  L : Lg
  e : Int
def morePcs (L : Lg) : List Pc := L.l.dropLast ++ [{ lastP L.l with count := L.n - (lastP L.l).first }, ⟨segName L.n, L.n, 0, false⟩]
def Lg.another (L : Lg) (d : Dsk) : LgR :=
  if 100 ≤ L.l.length then ⟨d, L, 5⟩ else
  if (d.sync (lastP L.l).name).2 ≠ 0 then ⟨(d.sync (lastP L.l).name).1, L, (d.sync (lastP L.l).name).2⟩ else
  if ((d.sync (lastP L.l).name).1.begun L.n).2 ≠ 0 then ⟨((d.sync (lastP L.l).name).1.begun L.n).1, { L with acked := L.n }, ((d.sync (lastP L.l).name).1.begun L.n).2⟩ else
  if (((d.sync (lastP L.l).name).1.begun L.n).1.install (morePcs L)).2 ≠ 0 then ⟨(((d.sync (lastP L.l).name).1.begun L.n).1.install (morePcs L)).1, { L with acked := L.n }, (((d.sync (lastP L.l).name).1.begun L.n).1.install (morePcs L)).2⟩ else
  ⟨(((d.sync (lastP L.l).name).1.begun L.n).1.install (morePcs L)).1, { L with acked := L.n, l := morePcs L, bytes := (headB L.n).length }, 0⟩
def Lg.roomed (L : Lg) (d : Dsk) : LgR := if (lastP L.l).first < L.n ∧ L.size ≤ L.bytes then L.another d else ⟨d, L, 0⟩
def Lg.put (L : Lg) (d : Dsk) (es : List Ev) : LgR :=
  if (d.append (lastP L.l).name (frmB es)).2 ≠ 0 then ⟨(d.append (lastP L.l).name (frmB es)).1, { L with over := true }, (d.append (lastP L.l).name (frmB es)).2⟩
  else ⟨(d.append (lastP L.l).name (frmB es)).1, { L with n := L.n + es.length, bytes := L.bytes + (frmB es).length }, 0⟩
def Lg.add (L : Lg) (d : Dsk) (es : List Ev) : LgR :=
  if L.over then ⟨d, L, 16⟩ else if es.length = 0 then ⟨d, L, 2⟩ else if 4096 < es.length then ⟨d, L, 3⟩ else
  if (L.roomed d).e ≠ 0 then ⟨(L.roomed d).d, { (L.roomed d).L with over := true }, (L.roomed d).e⟩ else (L.roomed d).L.put (L.roomed d).d es
def Lg.sync (L : Lg) (d : Dsk) : LgR :=
  if L.over then ⟨d, L, 16⟩ else
  if (d.sync (lastP L.l).name).2 ≠ 0 then ⟨(d.sync (lastP L.l).name).1, { L with over := true }, (d.sync (lastP L.l).name).2⟩ else
  ⟨(d.sync (lastP L.l).name).1, { L with acked := L.n }, 0⟩
def Lg.swap (L : Lg) (d : Dsk) (ps : List Pc) : LgR :=
  if L.over then ⟨d, L, 16⟩ else
  if rightL (ps ++ [lastP L.l]) = false then ⟨d, L, 14⟩ else
  if (d.install (ps ++ [lastP L.l])).2 ≠ 0 then ⟨(d.install (ps ++ [lastP L.l])).1, { L with over := true }, (d.install (ps ++ [lastP L.l])).2⟩ else
  ⟨(d.install (ps ++ [lastP L.l])).1, { L with l := ps ++ [lastP L.l] }, 0⟩
def newLg (size : Int) : Lg := ⟨size, [⟨segName 0, 0, 0, false⟩], 0, 0, (headB 0).length, false⟩
def createD (d : Dsk) (size : Int) : Dsk × Int :=
  if size < 64 ∨ 16777216 < size then (d, 2) else
  if (d.read manifestS).2 = 0 then (d, 14) else
  if (d.read manifestS).2 ≠ 13 then (d, (d.read manifestS).2) else
  if (d.begun 0).2 ≠ 0 then d.begun 0 else (d.begun 0).1.install (newLg size).l
end Go.Proofs.YtkbenkldfehhlaaGreatDoor

namespace Go.Proofs.YtkbenkldfehhlaaGreatDoor
open Go

section
variable {L : List (Str × DFile)} {n m : Str} {f : DFile} {d : Dsk} {b : List UInt8}
theorem nmF_setF (L : List (Str × DFile)) (n : Str) (f : DFile) : namesF (setF L n f) = if n ∈ namesF L then namesF L else namesF L ++ [n] := by
  induction L with
  | nil => simp [setF, namesF]
  | cons x L ih =>
    obtain ⟨k, g⟩ := x
    by_cases h : k = n
    · subst h; simp [setF, namesF]
    · simp only [setF, if_neg h]
      simp only [namesF, List.map_cons, List.mem_cons, Ne.symm h, false_or] at ih ⊢
      rw [ih]
      by_cases hm : n ∈ List.map Prod.fst L <;> simp [hm]
theorem fileOf_cons (k : Str) (g : DFile) (L : List (Str × DFile)) (n : Str) : fileOf ((k, g) :: L) n = if k = n then g else fileOf L n := by
  simp only [fileOf, getF]
  split <;> rfl
theorem usedF_cons (x : Str × DFile) (L : List (Str × DFile)) : usedF (x :: L) = x.2.bytes.length + usedF L := by simp [usedF]
theorem usedF_setF (L : List (Str × DFile)) (n : Str) (f : DFile) : usedF (setF L n f) + (fileOf L n).bytes.length = usedF L + f.bytes.length := by
  induction L with
  | nil => simp [setF, usedF, fileOf, getF]
  | cons x L ih =>
    obtain ⟨k, g⟩ := x
    by_cases h : k = n
    · subst h; simp only [setF, if_true, usedF_cons, fileOf_cons]; omega
    · simp only [setF, if_neg h, usedF_cons, fileOf_cons]; omega
theorem usedF_delF (L : List (Str × DFile)) (n : Str) : usedF (delF L n) + (fileOf L n).bytes.length = usedF L := by
  induction L with
  | nil => simp [delF, usedF, fileOf, getF]
  | cons x L ih =>
    obtain ⟨k, g⟩ := x
    by_cases h : k = n
    · subst h; simp only [delF, if_true, usedF_cons, fileOf_cons]; omega
    · simp only [delF, if_neg h, usedF_cons, fileOf_cons]; omega
theorem delF_miss (h : n ∉ namesF L) : delF L n = L := by
  induction L with
  | nil => rfl
  | cons x L ih =>
    obtain ⟨k, g⟩ := x
    simp only [namesF, List.map_cons, List.mem_cons, not_or] at h
    simp [delF, Ne.symm h.1, ih h.2]
theorem namesF_delF (L : List (Str × DFile)) (n : Str) : namesF (delF L n) = (namesF L).erase n := by
  induction L with
  | nil => simp [delF, namesF]
  | cons x L ih =>
    obtain ⟨k, g⟩ := x
    by_cases h : k = n
    · subst h; simp [delF, namesF]
    · simp only [delF, if_neg h]
      simp only [namesF, List.map_cons] at ih ⊢
      rw [ih, List.erase_cons_tail (by simpa using h)]
theorem getF_delF (hn : (namesF L).Nodup) (n m : Str) : getF (delF L n) m = if n = m then none else getF L m := by
  induction L with
  | nil => simp [delF, getF]
  | cons x L ih =>
    obtain ⟨k, g⟩ := x
    simp only [namesF, List.map_cons, List.nodup_cons] at hn
    by_cases h : k = n
    · subst h
      simp only [delF, if_true, getF]
      by_cases h2 : k = m
      · subst h2; simp only [if_true]; exact getF_miss hn.1
      · simp [h2]
    · simp only [delF, if_neg h, getF, ih hn.2]
      by_cases h2 : k = m
      · subst h2; simp [Ne.symm h]
      · simp [h2]
theorem fileOf_delF (hn : (namesF L).Nodup) (n m : Str) : fileOf (delF L n) m = if n = m then ⟨[], 0⟩ else fileOf L m := by
  unfold fileOf
  rw [getF_delF hn]
  split <;> rfl
theorem nodup_delF (hn : (namesF L).Nodup) (n : Str) : (namesF (delF L n)).Nodup := by rw [namesF_delF]; exact hn.erase n
theorem not_mem_delF (hn : (namesF L).Nodup) (n : Str) : n ∉ namesF (delF L n) := by rw [namesF_delF]; exact fun h => by rw [hn.mem_erase_iff] at h; exact h.1 rfl
theorem nodup_setF (hn : (namesF L).Nodup) (n : Str) (f : DFile) : (namesF (setF L n f)).Nodup := by
  rw [nmF_setF]
  split
  · exact hn
  · rename_i h
    rw [List.nodup_append]
    exact ⟨hn, by simp, fun a ha b hb => by simp at hb; subst hb; exact fun e => h (e ▸ ha)⟩
theorem length_setF (L : List (Str × DFile)) (n : Str) (f : DFile) : (setF L n f).length = if n ∈ namesF L then L.length else L.length + 1 := by
  have := congrArg List.length (nmF_setF L n f)
  simp only [namesF, List.length_map] at this ⊢
  rw [this]
  by_cases hm : n ∈ List.map Prod.fst L <;> simp [hm]
theorem length_delF (L : List (Str × DFile)) (n : Str) : (delF L n).length ≤ L.length := by
  have := congrArg List.length (namesF_delF L n)
  simp only [namesF, List.length_map] at this
  rw [this]
  exact Nat.le_trans (List.length_erase_le) (by simp)
structure Calm (d : Dsk) : Prop where
  up : d.down = false
  arm : d.arm = -1
  names : (namesF d.files).Nodup
theorem op_calm (h : Calm d) (act : List (Str × DFile) → List (Str × DFile)) : d.op 0 act = ({ d with files := act d.files }, 0) := by
  obtain ⟨h1, h2, -⟩ := h
  cases d
  simp only at h1 h2
  subst h1 h2
  simp [Dsk.op]
  decide
theorem op_calm_no (h : Calm d) {e : Int} (he : e ≠ 0) (act : List (Str × DFile) → List (Str × DFile)) : d.op e act = (d, e) := by
  simp [Dsk.op, h.up, he]
theorem Calm.setF (h : Calm d) (n : Str) (f : DFile) : Calm { d with files := setF d.files n f } := ⟨h.up, h.arm, nodup_setF h.names n f⟩
theorem Calm.delF (h : Calm d) (n : Str) : Calm { d with files := delF d.files n } := ⟨h.up, h.arm, nodup_delF h.names n⟩
theorem Calm.same (h : Calm d) (L : List (Str × DFile)) (hn : (namesF L).Nodup) : Calm { d with files := L } := ⟨h.up, h.arm, hn⟩
theorem append_calm (h : Calm d) (hn : okName n = true) (hu : ((usedF d.files + b.length : Nat) : Int) ≤ d.most) (hf : n ∈ namesF d.files ∨ d.files.length < 200) :
    d.append n b = ({ d with files := setF d.files n ⟨(fileOf d.files n).bytes ++ b, (fileOf d.files n).synced⟩ }, 0) := by
  unfold Dsk.append
  rw [show d.mayAppend n b = 0 from ?_, op_calm h]
  unfold Dsk.mayAppend
  rw [if_pos hn, if_neg]
  rintro (h1 | ⟨h1, h2⟩)
  · omega
  · rcases hf with hf | hf
    · exact h1 hf
    · omega
theorem sync_calm (h : Calm d) (hn : n ∈ namesF d.files) : d.sync n = ({ d with files := setF d.files n ⟨(fileOf d.files n).bytes, (fileOf d.files n).bytes.length⟩ }, 0) := by
  unfold Dsk.sync
  rw [show d.there n = 0 by simp [Dsk.there, hn], op_calm h]
theorem gone_calm (h : Calm d) (n : Str) : d.gone n = ({ d with files := delF d.files n }, 0) := by
  unfold Dsk.gone Dsk.remove
  by_cases hn : n ∈ namesF d.files
  · rw [show d.there n = 0 by simp [Dsk.there, hn], op_calm h]; rfl
  · rw [show d.there n = 13 by simp [Dsk.there, hn], op_calm_no h (by decide), delF_miss hn]; rfl
theorem setF_end (h : n ∉ namesF L) (f g : DFile) : setF (setF L n f) n g = L ++ [(n, g)] := by
  rw [setF_miss h, show L ++ [(n, f)] = L ++ (n, f) :: [] from rfl, setF_hit h]
theorem fresh_calm (h : Calm d) (hn : okName n = true) (hu : ((usedF d.files + b.length : Nat) : Int) ≤ d.most) (hf : d.files.length < 200) :
    d.fresh n b = ({ d with files := delF d.files n ++ [(n, ⟨b, b.length⟩)] }, 0) := by
  have hm := not_mem_delF h.names n
  have e0 : fileOf (delF d.files n) n = ⟨[], 0⟩ := by rw [fileOf_delF h.names, if_pos rfl]
  unfold Dsk.fresh
  rw [gone_calm h]
  have h1 := h.delF n
  have e1 := append_calm (b := b) h1 hn (by
    have := usedF_delF d.files n
    simp only
    omega) (.inr (Nat.lt_of_le_of_lt (length_delF _ _) hf))
  simp only [e0, List.nil_append] at e1
  simp only [andThen, if_true, e1]
  have h2 := h1.setF n ⟨b, 0⟩
  have e2 := sync_calm (n := n) h2 (by rw [nmF_setF, if_neg hm]; simp)
  simp only at e2
  rw [e2, fileOf_setF, if_pos rfl, setF_end hm]
theorem install_calm (h : Calm d) {l : List Pc} (hr : rightL l = true) (hu : ((usedF d.files + (manifestB l).length : Nat) : Int) ≤ d.most) (hf : d.files.length < 200) :
    d.install l = ({ d with files := setF (delF d.files nextS) manifestS ⟨manifestB l, (manifestB l).length⟩ }, 0) := by
  have hm := not_mem_delF h.names nextS
  unfold Dsk.install
  rw [if_pos hr, fresh_calm h (by decide) hu hf]
  simp only [andThen, if_true]
  have h1 : Calm { d with files := delF d.files nextS ++ [(nextS, ⟨manifestB l, (manifestB l).length⟩)] } := h.same _ (by
    rw [← setF_miss hm]
    exact nodup_setF (nodup_delF h.names _) _ _)
  unfold Dsk.rename
  rw [if_pos (by decide), show ({ d with files := delF d.files nextS ++ [(nextS, ⟨manifestB l, (manifestB l).length⟩)] } : Dsk).there nextS = 0 by simp [Dsk.there, namesF], op_calm h1]
  simp only [delF_hit hm, List.append_nil]
  rw [show fileOf (delF d.files nextS ++ [(nextS, (⟨manifestB l, (manifestB l).length⟩ : DFile))]) nextS = ⟨manifestB l, (manifestB l).length⟩ by simp [fileOf, getF_hit hm]]
end
theorem pieceB_len {p : Pc} (h : okPiece p.name = true) (h0 : p.first.toNat < 2 ^ 64) (h1 : p.count.toNat < 2 ^ 64) : (pieceB p).length ≤ 62 := by
  simp only [okPiece, okName, Bool.and_eq_true, decide_eq_true_eq] at h
  have hl := h.1.1.1.2
  have a := uintB_len p.name.length 1 (by omega) (by omega)
  have b := uintB_len p.first.toNat 10 (by omega) (Nat.lt_trans h0 (by decide))
  have c := uintB_len p.count.toNat 10 (by omega) (Nat.lt_trans h1 (by decide))
  simp only [pieceB, blobB, List.length_append, List.length_singleton]
  omega
theorem rightFrom_bound : ∀ (l : List Pc) (seen : List Str) (first : Int), rightFrom seen first l = true → 0 ≤ first → first + 1099511627776 * l.length < 2 ^ 60 →
    ∀ p ∈ l, okPiece p.name = true ∧ 0 ≤ p.first ∧ p.first < 2 ^ 60 ∧ 0 ≤ p.count ∧ p.count ≤ 1099511627776
  | [], _, _, _, _, _, _, hp => by cases hp
  | q :: l, seen, first, h, h0, hb, p, hp => by
    simp only [rightFrom, Bool.and_eq_true, decide_eq_true_eq] at h
    obtain ⟨⟨⟨⟨h1, -⟩, h2⟩, h3⟩, h4⟩ := h
    have hc : 0 ≤ q.count ∧ q.count ≤ 1099511627776 := by
      split at h3 <;> simp only [Bool.and_eq_true, decide_eq_true_eq] at h3 <;> omega
    simp only [List.length_cons] at hb
    rcases List.mem_cons.1 hp with rfl | hp
    · refine ⟨h1, ?_, ?_, hc⟩ <;> omega
    · exact rightFrom_bound l _ _ h4 (by omega) (by omega) p hp
theorem rightL_bound {l : List Pc} (h : rightL l = true) : 1 ≤ l.length ∧ l.length ≤ 100 ∧ ∀ p ∈ l, okPiece p.name = true ∧ 0 ≤ p.first ∧ p.first < 2 ^ 60 ∧ 0 ≤ p.count ∧ p.count ≤ 1099511627776 := by
  simp only [rightL, Bool.and_eq_true, decide_eq_true_eq] at h
  exact ⟨h.1.1, h.1.2, rightFrom_bound l _ _ h.2 (by omega) (by omega)⟩
theorem flat_len {l : List Pc} (h : ∀ p ∈ l, (pieceB p).length ≤ 62) : (l.flatMap pieceB).length ≤ 62 * l.length := by
  induction l with
  | nil => simp
  | cons p l ih =>
    have h1 := h p (by simp)
    have h2 := ih (fun q hq => h q (by simp [hq]))
    simp only [List.flatMap_cons, List.length_append, List.length_cons]
    omega
theorem manifestB_len {l : List Pc} (h : rightL l = true) : (manifestB l).length ≤ 6209 := by
  obtain ⟨h1, h2, h3⟩ := rightL_bound h
  have h4 := flat_len (l := l) fun p hp => by
    obtain ⟨a, b, c, d, e⟩ := h3 p hp
    exact pieceB_len a (by omega) (by omega)
  have h5 := uintB_len l.length 1 (by omega) (by omega)
  simp only [manifestB, manifestIn, sealB, List.length_append, List.length_cons, List.length_nil, sumB_len]
  omega
theorem headB_len {n : Nat} (h : n < 2 ^ 64) : (headB n).length ≤ 18 := by
  have := uintB_len n 10 (by omega) (Nat.lt_trans h (by decide))
  simp only [headB, sealB, List.length_append, List.length_cons, List.length_nil, sumB_len]
  omega
end Go.Proofs.YtkbenkldfehhlaaGreatDoor
